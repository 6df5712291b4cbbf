/- Lemmas and contracts of functions that statements of this seat stand on, many texts in one; each holds under the premises typed in its head. -/
import Derived.Test.YtafghiekpgjniaaGreatDoorOwC
/- owner: served; Serve. -/
namespace Go.Proofs.YtafghiekpgjniaaGreatDoor
open Go.RowKit
set_option linter.unusedVariables false
set_option linter.unusedSimpArgs false

set_option maxRecDepth 100000
def tabV (g : Nat) : Array Value := #[.nilFunc, .func (.func 195) #[] #[.pointer (some ⟨g, 0, none⟩)], .func (.func 196) #[] #[.pointer (some ⟨g, 0, none⟩)], .func (.func 197) #[] #[.pointer (some ⟨g, 0, none⟩)], .func (.func 198) #[] #[.pointer (some ⟨g, 0, none⟩)], .func (.func 199) #[] #[.pointer (some ⟨g, 0, none⟩)]]
theorem tab_one (g : Nat) : (tabV g).all (·.oneCell') = true := by simp [tabV, Value.oneCell']
theorem tab_info (g : Nat) : (Tryz.prog.info? 165).map (·.size) = some (tabV g).size := by
  show _ = some 6
  kernel_rfl
set_option maxHeartbeats 2000000 in
theorem served_any (g : Nat) (w : World) :
    Calls Tryz.prog 130 #[.pointer (some ⟨g, 0, none⟩)] w fun e w' => e = .returned (.agg (tabV w.heap.size)) ∧ w'.heap[w.heap.size]? = some (.cells #[.pointer (some ⟨g, 0, none⟩)] 99 (0, 0)) ∧ Below w.heap.size w w' := by
  go_enter Tryz.func130, Tryz.ntmps130
  go_upto_region 1 with fail
  obtain ⟨W, hW⟩ : ∃ W, W = (w.alloc (.cells #[.pointer (some ⟨g, 0, none⟩)] 99)).alloc (.cells #[.nilFunc, .nilFunc, .nilFunc, .nilFunc, .nilFunc, .nilFunc] 165) := ⟨_, rfl⟩
  rw [← hW]
  have hB : Below w.heap.size w W := hW ▸ bel_alloc (bel_alloc (Below.refl _ _) _) _
  have h1 : W.heap[w.heap.size]? = some (.cells #[.pointer (some ⟨g, 0, none⟩)] 99 (0, 0)) := by
    rw [hW]; exact (Below.heap_alloc _ _ _ (by simp)).trans (blk_new _ _)
  have h2 : W.heap[w.heap.size + 1]? = some (.cells #[.nilFunc, .nilFunc, .nilFunc, .nilFunc, .nilFunc, .nilFunc] 165 (0, 0)) := by
    rw [hW]; exact blk_new2 _ _ _
  have HB := Lib.hid hB
  have H1 := Lib.hid h1
  have H2 := Lib.hid h2
  clear hW hB h1 h2
  go_wp2_with (with_reducible refine wpList_store_row rfl 165 _ _ rfl (w.heap.size + 1) (tabV w.heap.size) rfl rfl 165 _ H2.out (tab_info _) rfl (tab_one _) ?_)
  have H3 := setRow_heap W (w.heap.size + 1) _ (tabV w.heap.size) 165 (0, 0) H2.out
  exact bodyPost_ret (results_cell_row rfl _ _ (w.heap.size + 1) _ _ _ _ rfl H3 Tryz.underlying165 rfl (tab_info _)) rfl ⟨rfl, (setRow_other _ _ _ _ (by omega)).trans H1.out, below_setRow HB.out (by omega) _⟩
end Go.Proofs.YtafghiekpgjniaaGreatDoor

/- owner: Serve. -/

namespace Go.Proofs.YtafghiekpgjniaaGreatDoor
open Go.RowKit
set_option linter.unusedVariables false
set_option linter.unusedSimpArgs false

set_option maxRecDepth 100000
theorem mayR_kind {r : Rq} (h : mayR r = true) : r.kind = 1 ∨ r.kind = 2 ∨ r.kind = 3 ∨ r.kind = 4 ∨ r.kind = 5 := by
  unfold mayR at h
  by_cases h1 : r.kind = 1
  · exact Or.inl h1
  by_cases h2 : r.kind = 2
  · exact Or.inr (Or.inl h2)
  by_cases h3 : r.kind = 3
  · exact Or.inr (Or.inr (Or.inl h3))
  by_cases h4 : r.kind = 4
  · exact Or.inr (Or.inr (Or.inr (Or.inl h4)))
  by_cases h5 : r.kind = 5
  · exact Or.inr (Or.inr (Or.inr (Or.inr h5)))
  simp [h1, h2, h3, h4, h5] at h
/-- What the reply to a request is: its cells are cs, the shard then holds L'. -/
def RepR (w : World) (L : Hs) (r : Rq) (L' : Hs) (cs : Array Value) (w' : World) : Prop :=
  if r.kind = 1 then L' = instH L (partR r) ∧ cs = #[.int .i64 r.from_, .bool (newP L (partR r)), .slice none 0 0, .slice none 0 0, .int .i64 0]
  else if r.kind = 2 then L' = L ∧ ∃ v, cs = #[.int .i64 r.from_, .bool (getV (hget L r.key) r.num).2, v, .slice none 0 0, .int .i64 0] ∧ (if (getV (hget L r.key) r.num).2 = true then OwnE w' w.heap.size v [(r.key, (getV (hget L r.key) r.num).1)] else v = .slice none 0 0)
  else if r.kind = 3 then L' = L ∧ ∃ v, cs = #[.int .i64 r.from_, .bool true, v, .slice none 0 0, .int .i64 0] ∧ OwnE w' w.heap.size v (scanH L r.key r.fin r.num)
  else if r.kind = 4 then L' = collH L r.num ∧ cs = #[.int .i64 r.from_, .bool true, .slice none 0 0, .slice none 0 0, .int .i64 (goneH L r.num : Nat)]
  else L' = L ∧ ∃ v hs, cs = #[.int .i64 r.from_, .bool true, .slice none 0 0, v, .int .i64 0] ∧ HRow w' w.heap.size v hs ∧ plainR hs = dumpH L r.num r.bs
theorem Kept.trans3 {a b c : World} {X Y : Nat → Prop} (h : Kept a b X) (k : Kept b c Y) (hY : ∀ i, Y i → X i ∨ a.heap.size ≤ i) : Kept a c X :=
  ⟨k.os.trans h.os, k.tape.trans h.tape, k.output.trans h.output, Nat.le_trans h.size k.size, fun i hi hx => (k.block i (Nat.lt_of_lt_of_le hi h.size) (fun hy => by
    rcases hY i hy with h2 | h2
    · exact hx h2
    · omega)).trans (h.block i hi hx)⟩
def OServeEnd (w : World) (o : OB) (L : Hs) (r : Rq) (q : List Rq) (e : Ending) (w' : World) : Prop :=
  ∃ f2 L' cs, e = .returned (.tuple #[.agg cs, .int .i64 0]) ∧ RepR w L r L' cs w' ∧ OwAt w' o f2 L' q ∧ Kept w w' (fun b => b = o.p ∨ b = o.b ∨ b = o.t.p) ∧ (r.kind = 5 → Kept w w' (fun b => ∃ cs t fr, w.heap[b]? = some (.cells cs t fr)))
def respZ : Array Value := #[.int .i64 0, .bool false, .slice none 0 0, .slice none 0 0, .int .i64 0]
theorem OwAt.final {w w7 : World} {o : OB} {first f2 : Nat} {L L' : Hs} {r : Rq} {q : List Rq} {cs : Array Value} (h0 : OwAt w o first L (r :: q)) (h7 : OwAt w7 o f2 L' q) (k : Kept w w7 (fun b => b = o.p ∨ b = o.b ∨ b = o.t.p))
    (hz : w7.heap[w.heap.size]? = some (.cells cs 105 (0, 0))) (cs' : Array Value) : OwAt (w7.setRow w.heap.size cs') o f2 L' q ∧ Kept w (w7.setRow w.heap.size cs') (fun b => b = o.p ∨ b = o.b ∨ b = o.t.p) := by
  have k8 : Kept w (w7.setRow w.heap.size cs') (fun b => b = o.p ∨ b = o.b ∨ b = o.t.p) := k.setRow (Or.inr (Nat.le_refl _)) _
  have k9 : Kept w7 (w7.setRow w.heap.size cs') (fun b => b = w.heap.size) := (Kept.refl w7 (fun b => b = w.heap.size)).setRow (Or.inl rfl) _
  have e1 := blk_lt h0.hg
  have e2 := blk_lt h0.rg.hp
  have e3 := h0.rg.buf.lt
  have e4 := h0.sh.lt
  refine ⟨⟨k9.blk h7.hg (blk_lt h7.hg) (by omega), h7.sh.keptV k9 (fun b hb => ?_), h7.rg.kept k9 ⟨by omega, by omega⟩, fun x hx => (h0.bey x (by simp [hx])).kept k8 (fun b hb => hb), h7.may⟩, k8⟩
  subst hb
  exact ⟨by omega, by omega, (fun cs fr hc => by rw [hz] at hc; cases hc)⟩
theorem resp_one (a : Int) (b : Bool) (A1 : Option Addr) (n1 c1 : Nat) (A2 : Option Addr) (n2 c2 : Nat) (d : Int) : (#[Value.int .i64 a, .bool b, .slice A1 n1 c1, .slice A2 n2 c2, .int .i64 d] : Array Value).all (·.oneCell') = true := by simp [Value.oneCell']
theorem resp_info (a b c d e : Value) : (Tryz.prog.info? 105).map (·.size) = some (#[a, b, c, d, e] : Array Value).size := by
  show _ = some 5
  kernel_rfl
theorem slice_of_get {w : World} {B : Nat} {v : Value} {es : List (ByteArray × ByteArray)} {c : Bool} (h : if c = true then OwnE w B v es else v = .slice none 0 0) : ∃ A m k, v = .slice A m k := by
  cases c
  · exact ⟨_, _, _, h⟩
  · exact slice_of_own h
theorem get_keep {w w' : World} {B B' g : Nat} {v : Value} {es : List (ByteArray × ByteArray)} {c : Bool} (h : if c = true then OwnE w B v es else v = .slice none 0 0) (hB : B' ≤ B) (k : Kept w w' (fun b => b = g)) (hg : g < B) : if c = true then OwnE w' B' v es else v = .slice none 0 0 := by
  cases c
  · exact h
  · exact ownsRow_base_a (ownsRow_kept h k (fun b hb => by subst hb; exact hg)) hB
theorem tab_ix1 (g : Nat) (X : World) : (Instr.index 165 (.agg (tabV g)) (.int .u8 1)).run Tryz.prog X = .ok (.func (.func 195) #[] #[.pointer (some ⟨g, 0, none⟩)]) X := by kernel_rfl
theorem tab_ix2 (g : Nat) (X : World) : (Instr.index 165 (.agg (tabV g)) (.int .u8 2)).run Tryz.prog X = .ok (.func (.func 196) #[] #[.pointer (some ⟨g, 0, none⟩)]) X := by kernel_rfl
theorem tab_ix3 (g : Nat) (X : World) : (Instr.index 165 (.agg (tabV g)) (.int .u8 3)).run Tryz.prog X = .ok (.func (.func 197) #[] #[.pointer (some ⟨g, 0, none⟩)]) X := by kernel_rfl
theorem tab_ix4 (g : Nat) (X : World) : (Instr.index 165 (.agg (tabV g)) (.int .u8 4)).run Tryz.prog X = .ok (.func (.func 198) #[] #[.pointer (some ⟨g, 0, none⟩)]) X := by kernel_rfl
theorem tab_ix5 (g : Nat) (X : World) : (Instr.index 165 (.agg (tabV g)) (.int .u8 5)).run Tryz.prog X = .ok (.func (.func 199) #[] #[.pointer (some ⟨g, 0, none⟩)]) X := by kernel_rfl
set_option maxHeartbeats 8000000 in
theorem oserve_any (o : OB) (first : Nat) (L : Hs) (r : Rq) (q : List Rq) (w : World) (h : OwAt w o first L (r :: q)) (hn : L.length ≤ 3518437208883) (hs : sizeH L ≤ 1152921504606846976) :
    Calls Tryz.prog 39 #[.pointer (some ⟨o.g, 0, none⟩)] w (OServeEnd w o L r q) := by
  have H := Lib.hid h
  have hth : ∀ X, Below w.heap.size w X → Calls Tryz.prog 125 #[.pointer (some ⟨o.g, 0, none⟩)] X fun e w' => e = .returned (.bool true) ∧ w' = X := fun X hX => othere_any o first L _ X (h.below hX)
  have Hth := Lib.hid hth
  have hk := mayR_kind (h.may r (by simp))
  clear h hth
  go_enter Tryz.func39, Tryz.ntmps39
  go_wp2_with fail
  obtain ⟨W1, hW⟩ : ∃ W1, W1 = w.alloc (.cells respZ 105) := ⟨_, rfl⟩
  change Calls _ _ _ (w.alloc (.cells respZ 105)) _
  rw [← hW]
  have HB1 : Hid (Below w.heap.size w W1) := Lib.hid (hW ▸ bel_alloc (Below.refl _ _) _)
  have HZ1 : Hid (W1.heap[w.heap.size]? = some (.cells respZ 105 (0, 0))) := Lib.hid (hW ▸ blk_new _ _)
  have hs1 : w.heap.size < W1.heap.size := by rw [hW]; simp
  have HO1 := Lib.hid (H.out.below HB1.out)
  clear hW
  refine (Hth.out _ HB1.out).mono ?_
  rintro e w1 ⟨rfl, rfl⟩
  have c1 := HO1.out.c1
  go_wp2_with fail
  refine (rtake_any o.p o.b o.cap first r q w1 HO1.out.rg).mono ?_
  rintro e w2 ⟨rfl, hr2, k2⟩
  have HO2 : Hid (OwAt w2 o ((first + 1) % o.cap) L q) := Lib.hid (HO1.out.ring hr2 k2 (fun x hx => HO1.out.bey x (by simp [hx])) (fun x hx => HO1.out.may x (by simp [hx])))
  have HBy : Hid (BeyAt w2 o r) := Lib.hid ((HO1.out.bey r (by simp)).kept k2 (fun b e => by omega))
  have K2 : Hid (Kept w w2 (fun b => b = o.p ∨ b = o.b)) := Lib.hid ((Kept.of_below HB1.out).trans k2)
  have HZ2 : Hid (w2.heap[w.heap.size]? = some (.cells respZ 105 (0, 0))) := Lib.hid (k2.blk HZ1.out hs1 (by have := H.out.rg.buf.lt; have := blk_lt H.out.rg.hp; omega))
  have hs2 : w.heap.size < w2.heap.size := Nat.lt_of_lt_of_le hs1 k2.size
  clear hr2 k2 c1 HO1 Hth HB1 HZ1 hs1
  generalize (first + 1) % o.cap = f2 at HO2
  obtain ⟨kind, from_, num, wk, wv, wd, key, fin, A, len, cap, bs⟩ := r
  unfold Rq.val
  simp only at hk ⊢
  have hzl : (w2.alloc (.cells #[.int .u8 0, .int .i64 0, .int .i64 0, .string ⟨#[]⟩, .string ⟨#[]⟩, .bool false, .string ⟨#[]⟩, .string ⟨#[]⟩, .slice none 0 0] 98)).heap[w2.heap.size]? = some (.cells #[.int .u8 0, .int .i64 0, .int .i64 0, .string ⟨#[]⟩, .string ⟨#[]⟩, .bool false, .string ⟨#[]⟩, .string ⟨#[]⟩, .slice none 0 0] 98 (0, 0)) := blk_new _ _
  have Hzl := Lib.hid hzl
  clear hzl
  obtain ⟨RC, hRC⟩ : ∃ RC, RC = (Rq.cells ⟨kind, from_, num, wk, wv, wd, key, fin, A, len, cap, bs⟩).toArray := ⟨_, rfl⟩
  have HRC := Lib.hid hRC
  clear hRC
  go_upto_region 4 with (with_reducible refine wpList_store_row rfl 98 _ _ rfl w2.heap.size (Rq.cells ⟨kind, from_, num, wk, wv, wd, key, fin, A, len, cap, bs⟩).toArray rfl rfl 98 _ Hzl.out rfl rfl (rq_one _) ?_)
  have HB3 : Hid (Below w2.heap.size w2 ((w2.alloc (.cells #[.int .u8 0, .int .i64 0, .int .i64 0, .string ⟨#[]⟩, .string ⟨#[]⟩, .bool false, .string ⟨#[]⟩, .string ⟨#[]⟩, .slice none 0 0] 98)).setRow w2.heap.size (Rq.cells ⟨kind, from_, num, wk, wv, wd, key, fin, A, len, cap, bs⟩).toArray)) := Lib.hid (below_setRow (bel_alloc (Below.refl _ _) _) (Nat.le_refl _) _)
  have HN3 := Lib.hid (setRow_heap _ w2.heap.size _ (Rq.cells ⟨kind, from_, num, wk, wv, wd, key, fin, A, len, cap, bs⟩).toArray 98 (0, 0) Hzl.out)
  generalize (w2.alloc (.cells #[.int .u8 0, .int .i64 0, .int .i64 0, .string ⟨#[]⟩, .string ⟨#[]⟩, .bool false, .string ⟨#[]⟩, .string ⟨#[]⟩, .slice none 0 0] 98)).setRow w2.heap.size (Rq.cells ⟨kind, from_, num, wk, wv, wd, key, fin, A, len, cap, bs⟩).toArray = W3 at HB3 HN3 ⊢
  clear Hzl HRC
  obtain ⟨g4, hg4, hg4a⟩ : ∃ g4, g4 = w2.heap.size ∧ w2.heap.size ≤ g4 := ⟨_, rfl, Nat.le_refl _⟩
  rw [← hg4] at HN3 ⊢
  clear hg4
  have hg3 : g4 < W3.heap.size := blk_lt HN3.out
  have z1 : W3.cell? ⟨g4, 1, none⟩ = some (.int .i64 from_) := blk_cell HN3.out 1
  go_upto_region 7 with fail
  have HB5 : Hid (Below w2.heap.size w2 (W3.alloc (.cells #[.int .i64 from_, .bool true, .slice none 0 0, .slice none 0 0, .int .i64 0] 105))) := Lib.hid (HB3.out.trans ((Below.refl _ _).alloc HB3.out.size _))
  have HR5 : Hid ((W3.alloc (.cells #[.int .i64 from_, .bool true, .slice none 0 0, .slice none 0 0, .int .i64 0] 105)).heap[W3.heap.size]? = some (.cells #[.int .i64 from_, .bool true, .slice none 0 0, .slice none 0 0, .int .i64 0] 105 (0, 0))) := Lib.hid (blk_new _ _)
  have HN5 : Hid ((W3.alloc (.cells #[.int .i64 from_, .bool true, .slice none 0 0, .slice none 0 0, .int .i64 0] 105)).heap[g4]? = _) := Lib.hid ((Below.heap_alloc _ _ _ hg3).trans HN3.out)
  have hg6a : w2.heap.size ≤ W3.heap.size := HB3.out.size
  generalize W3.alloc (.cells #[.int .i64 from_, .bool true, .slice none 0 0, .slice none 0 0, .int .i64 0] 105) = W5 at HB5 HR5 HN5 ⊢
  have hg6b : w2.heap.size ≤ W5.heap.size := HB5.out.size
  have HB5d : Hid (Below w2.heap.size w2 W5.drew) := Lib.hid HB5.out.drew
  clear z1 HN3 HB3
  generalize W3.heap.size = g6 at hg3 hg6a HR5 ⊢
  have hsv := served_any o.g
  unfold tabV at hsv
  have Hsv := Lib.hid hsv
  clear hsv
  have hs2' : w.heap.size ≤ w2.heap.size := Nat.le_of_lt hs2
  have htp : o.t.p < w.heap.size := H.out.sh.lt.2
  rcases hk with rfl | rfl | rfl | rfl | rfl
  · skip
    as_aux_lemma =>
    have HK : Hid (∀ X : World, X.heap[g4]? = some (.cells (Rq.cells ⟨1, from_, num, wk, wv, wd, key, fin, A, len, cap, bs⟩).toArray 98 (0, 0)) → X.cell? ⟨g4, 0, none⟩ = some (.int .u8 1) ∧ X.cell? ⟨g4, 1, none⟩ = some (.int .i64 from_) ∧ X.cell? ⟨g4, 2, none⟩ = some (.int .i64 num) ∧ X.cell? ⟨g4, 3, none⟩ = some (.string wk) ∧ X.cell? ⟨g4, 4, none⟩ = some (.string wv) ∧ X.cell? ⟨g4, 5, none⟩ = some (.bool wd) ∧ X.cell? ⟨g4, 6, none⟩ = some (.string key) ∧ X.cell? ⟨g4, 7, none⟩ = some (.string fin) ∧ X.cell? ⟨g4, 8, none⟩ = some (.slice A len cap)) := Lib.hid fun X hX => rqz 1 from_ num wk wv wd key fin A len cap hX
    have hix := tab_ix1 W5.heap.size
    unfold tabV at hix
    go_region_held3 (fun X => X.cell? ⟨g4, 0, none⟩ = some (.int .u8 1) ∧ X.cell? ⟨g4, 1, none⟩ = some (.int .i64 from_) ∧ X.cell? ⟨g4, 2, none⟩ = some (.int .i64 num) ∧ X.cell? ⟨g4, 3, none⟩ = some (.string wk) ∧ X.cell? ⟨g4, 4, none⟩ = some (.string wv) ∧ X.cell? ⟨g4, 5, none⟩ = some (.bool wd) ∧ X.cell? ⟨g4, 6, none⟩ = some (.string key) ∧ X.cell? ⟨g4, 7, none⟩ = some (.string fin) ∧ X.cell? ⟨g4, 8, none⟩ = some (.slice A len cap))
      (first | (refine HK.out _ ?_; (first | exact HN5.out | exact HN6.out | exact HN7.out)))
      (first
        | (go_at_call 130; refine (Hsv.out W5.drew).mono ?_; rintro e w6 ⟨rfl, hbx, hb6⟩; have HN6 : Hid (w6.heap[g4]? = some (.cells (Rq.cells ⟨1, from_, num, wk, wv, wd, key, fin, A, len, cap, bs⟩).toArray 98 (0, 0))) := Lib.hid ((hb6.block _ (blk_lt HN5.out)).trans HN5.out); have HS6 : Hid (SrvAt w2 w6 o f2 L q W5.heap.size g6 from_) := Lib.hid ⟨HO2.out, HB5d.out.trans (hb6.mono hg6b), hg6b, hg6a, hbx, (hb6.block _ (blk_lt HR5.out)).trans HR5.out⟩; have HB6 : Hid (Below w2.heap.size w2 w6) := Lib.hid (HB5d.out.trans (hb6.mono hg6b)); clear hbx hb6)
        | (go_at_call 195; refine (srv1_any w2 w6 o f2 L q W5.heap.size g6 from_ ⟨1, from_, num, wk, wv, wd, key, fin, A, len, cap, bs⟩ HS6.out).mono ?_; rintro e w7 ⟨rfl, hE⟩; have HN7 : Hid (w7.heap[g4]? = some (.cells (Rq.cells ⟨1, from_, num, wk, wv, wd, key, fin, A, len, cap, bs⟩).toArray 98 (0, 0))) := Lib.hid (hE.kept2.blk HN6.out (blk_lt HN6.out) (by omega)); have HE := Lib.hid hE; clear hE))
    have HO7 : Hid (OwAt w7 o f2 (instH L (partR ⟨1, from_, num, wk, wv, wd, key, fin, A, len, cap, bs⟩)) q) := Lib.hid (HO2.out.shard HE.out.sh HE.out.kept)
    have K7 : Hid (Kept w w7 (fun b => b = o.p ∨ b = o.b ∨ b = o.t.p)) := Lib.hid ((K2.out.mono (fun b hb => by omega)).trans (HE.out.kept.mono (fun b hb => by omega)))
    have HZ7 : Hid (w7.heap[w.heap.size]? = some (.cells respZ 105 (0, 0))) := Lib.hid (HE.out.kept.blk HZ2.out hs2 (by omega))
    have HC7 : Hid (w7.heap[g6]? = some (.cells #[.int .i64 from_, .bool (newP L (partR ⟨1, from_, num, wk, wv, wd, key, fin, A, len, cap, bs⟩)), .slice none 0 0, .slice none 0 0, .int .i64 0] 105 (0, 0))) := Lib.hid HE.out.ob2
    go_wp2_with (with_reducible first | refine wpList_load_row rfl 105 _ rfl g6 rfl 105 #[.int .i64 from_, .bool (newP L (partR ⟨1, from_, num, wk, wv, wd, key, fin, A, len, cap, bs⟩)), .slice none 0 0, .slice none 0 0, .int .i64 0] (0, 0) _ HC7.out Tryz.underlying105 rfl (resp_info _ _ _ _ _) ?_ | refine wpList_store_row rfl 105 _ _ rfl w.heap.size #[.int .i64 from_, .bool (newP L (partR ⟨1, from_, num, wk, wv, wd, key, fin, A, len, cap, bs⟩)), .slice none 0 0, .slice none 0 0, .int .i64 0] rfl rfl 105 _ HZ7.out (resp_info _ _ _ _ _) rfl (resp_one _ _ _ _ _ _ _ _ _) ?_)
    have HZ8 := setRow_heap w7 w.heap.size _ #[.int .i64 from_, .bool (newP L (partR ⟨1, from_, num, wk, wv, wd, key, fin, A, len, cap, bs⟩)), .slice none 0 0, .slice none 0 0, .int .i64 0] 105 (0, 0) HZ7.out
    have hs6 : w.heap.size < w6.heap.size := Nat.lt_of_lt_of_le hs2 HB6.out.size
    obtain ⟨f1, f3⟩ := H.out.final HO7.out K7.out HZ7.out #[.int .i64 from_, .bool (newP L (partR ⟨1, from_, num, wk, wv, wd, key, fin, A, len, cap, bs⟩)), .slice none 0 0, .slice none 0 0, .int .i64 0]
    refine bodyPost_ret (results_ct_row rfl _ _ w.heap.size _ _ _ _ rfl HZ8 Tryz.underlying105 rfl (resp_info _ _ _ _ _)) rfl ⟨f2, _, _, rfl, ?_, f1, f3, fun h => by simp at h⟩
    exact ⟨rfl, rfl⟩
  · skip
    as_aux_lemma =>
    have HK : Hid (∀ X : World, X.heap[g4]? = some (.cells (Rq.cells ⟨2, from_, num, wk, wv, wd, key, fin, A, len, cap, bs⟩).toArray 98 (0, 0)) → X.cell? ⟨g4, 0, none⟩ = some (.int .u8 2) ∧ X.cell? ⟨g4, 1, none⟩ = some (.int .i64 from_) ∧ X.cell? ⟨g4, 2, none⟩ = some (.int .i64 num) ∧ X.cell? ⟨g4, 3, none⟩ = some (.string wk) ∧ X.cell? ⟨g4, 4, none⟩ = some (.string wv) ∧ X.cell? ⟨g4, 5, none⟩ = some (.bool wd) ∧ X.cell? ⟨g4, 6, none⟩ = some (.string key) ∧ X.cell? ⟨g4, 7, none⟩ = some (.string fin) ∧ X.cell? ⟨g4, 8, none⟩ = some (.slice A len cap)) := Lib.hid fun X hX => rqz 2 from_ num wk wv wd key fin A len cap hX
    have hix := tab_ix2 W5.heap.size
    unfold tabV at hix
    go_region_held3 (fun X => X.cell? ⟨g4, 0, none⟩ = some (.int .u8 2) ∧ X.cell? ⟨g4, 1, none⟩ = some (.int .i64 from_) ∧ X.cell? ⟨g4, 2, none⟩ = some (.int .i64 num) ∧ X.cell? ⟨g4, 3, none⟩ = some (.string wk) ∧ X.cell? ⟨g4, 4, none⟩ = some (.string wv) ∧ X.cell? ⟨g4, 5, none⟩ = some (.bool wd) ∧ X.cell? ⟨g4, 6, none⟩ = some (.string key) ∧ X.cell? ⟨g4, 7, none⟩ = some (.string fin) ∧ X.cell? ⟨g4, 8, none⟩ = some (.slice A len cap))
      (first | (refine HK.out _ ?_; (first | exact HN5.out | exact HN6.out | exact HN7.out)))
      (first
        | (go_at_call 130; refine (Hsv.out W5.drew).mono ?_; rintro e w6 ⟨rfl, hbx, hb6⟩; have HN6 : Hid (w6.heap[g4]? = some (.cells (Rq.cells ⟨2, from_, num, wk, wv, wd, key, fin, A, len, cap, bs⟩).toArray 98 (0, 0))) := Lib.hid ((hb6.block _ (blk_lt HN5.out)).trans HN5.out); have HS6 : Hid (SrvAt w2 w6 o f2 L q W5.heap.size g6 from_) := Lib.hid ⟨HO2.out, HB5d.out.trans (hb6.mono hg6b), hg6b, hg6a, hbx, (hb6.block _ (blk_lt HR5.out)).trans HR5.out⟩; have HB6 : Hid (Below w2.heap.size w2 w6) := Lib.hid (HB5d.out.trans (hb6.mono hg6b)); clear hbx hb6)
        | (go_at_call 196; refine (srv2_any w2 w6 o f2 L q W5.heap.size g6 from_ ⟨2, from_, num, wk, wv, wd, key, fin, A, len, cap, bs⟩ HS6.out).mono ?_; rintro e w7 ⟨rfl, v, hE, hO⟩; have HN7 : Hid (w7.heap[g4]? = some (.cells (Rq.cells ⟨2, from_, num, wk, wv, wd, key, fin, A, len, cap, bs⟩).toArray 98 (0, 0))) := Lib.hid (hE.kept2.blk HN6.out (blk_lt HN6.out) (by omega)); have HE := Lib.hid hE; obtain ⟨A3, n3, c3, rfl⟩ := slice_of_get hO; have HO := Lib.hid hO; clear hO; clear hE))
    have HO7 : Hid (OwAt w7 o f2 L q) := Lib.hid (HO2.out.shard HE.out.sh HE.out.kept)
    have K7 : Hid (Kept w w7 (fun b => b = o.p ∨ b = o.b ∨ b = o.t.p)) := Lib.hid ((K2.out.mono (fun b hb => by omega)).trans (HE.out.kept.mono (fun b hb => by omega)))
    have HZ7 : Hid (w7.heap[w.heap.size]? = some (.cells respZ 105 (0, 0))) := Lib.hid (HE.out.kept.blk HZ2.out hs2 (by omega))
    have HC7 : Hid (w7.heap[g6]? = some (.cells #[.int .i64 from_, .bool (getV (hget L key) num).2, .slice A3 n3 c3, .slice none 0 0, .int .i64 0] 105 (0, 0))) := Lib.hid HE.out.ob2
    go_wp2_with (with_reducible first | refine wpList_load_row rfl 105 _ rfl g6 rfl 105 #[.int .i64 from_, .bool (getV (hget L key) num).2, .slice A3 n3 c3, .slice none 0 0, .int .i64 0] (0, 0) _ HC7.out Tryz.underlying105 rfl (resp_info _ _ _ _ _) ?_ | refine wpList_store_row rfl 105 _ _ rfl w.heap.size #[.int .i64 from_, .bool (getV (hget L key) num).2, .slice A3 n3 c3, .slice none 0 0, .int .i64 0] rfl rfl 105 _ HZ7.out (resp_info _ _ _ _ _) rfl (resp_one _ _ _ _ _ _ _ _ _) ?_)
    have HZ8 := setRow_heap w7 w.heap.size _ #[.int .i64 from_, .bool (getV (hget L key) num).2, .slice A3 n3 c3, .slice none 0 0, .int .i64 0] 105 (0, 0) HZ7.out
    have hs6 : w.heap.size < w6.heap.size := Nat.lt_of_lt_of_le hs2 HB6.out.size
    obtain ⟨f1, f3⟩ := H.out.final HO7.out K7.out HZ7.out #[.int .i64 from_, .bool (getV (hget L key) num).2, .slice A3 n3 c3, .slice none 0 0, .int .i64 0]
    refine bodyPost_ret (results_ct_row rfl _ _ w.heap.size _ _ _ _ rfl HZ8 Tryz.underlying105 rfl (resp_info _ _ _ _ _)) rfl ⟨f2, _, _, rfl, ?_, f1, f3, fun h => by simp at h⟩
    have hk9 : Kept w7 (w7.setRow w.heap.size #[.int .i64 from_, .bool (getV (hget L key) num).2, .slice A3 n3 c3, .slice none 0 0, .int .i64 0]) (fun b => b = w.heap.size) := (Kept.refl w7 (fun b => b = w.heap.size)).setRow (Or.inl rfl) _
    exact ⟨rfl, _, rfl, get_keep HO.out (Nat.le_of_lt hs6) hk9 hs6⟩
  · skip
    as_aux_lemma =>
    have HK : Hid (∀ X : World, X.heap[g4]? = some (.cells (Rq.cells ⟨3, from_, num, wk, wv, wd, key, fin, A, len, cap, bs⟩).toArray 98 (0, 0)) → X.cell? ⟨g4, 0, none⟩ = some (.int .u8 3) ∧ X.cell? ⟨g4, 1, none⟩ = some (.int .i64 from_) ∧ X.cell? ⟨g4, 2, none⟩ = some (.int .i64 num) ∧ X.cell? ⟨g4, 3, none⟩ = some (.string wk) ∧ X.cell? ⟨g4, 4, none⟩ = some (.string wv) ∧ X.cell? ⟨g4, 5, none⟩ = some (.bool wd) ∧ X.cell? ⟨g4, 6, none⟩ = some (.string key) ∧ X.cell? ⟨g4, 7, none⟩ = some (.string fin) ∧ X.cell? ⟨g4, 8, none⟩ = some (.slice A len cap)) := Lib.hid fun X hX => rqz 3 from_ num wk wv wd key fin A len cap hX
    have hix := tab_ix3 W5.heap.size
    unfold tabV at hix
    go_region_held3 (fun X => X.cell? ⟨g4, 0, none⟩ = some (.int .u8 3) ∧ X.cell? ⟨g4, 1, none⟩ = some (.int .i64 from_) ∧ X.cell? ⟨g4, 2, none⟩ = some (.int .i64 num) ∧ X.cell? ⟨g4, 3, none⟩ = some (.string wk) ∧ X.cell? ⟨g4, 4, none⟩ = some (.string wv) ∧ X.cell? ⟨g4, 5, none⟩ = some (.bool wd) ∧ X.cell? ⟨g4, 6, none⟩ = some (.string key) ∧ X.cell? ⟨g4, 7, none⟩ = some (.string fin) ∧ X.cell? ⟨g4, 8, none⟩ = some (.slice A len cap))
      (first | (refine HK.out _ ?_; (first | exact HN5.out | exact HN6.out | exact HN7.out)))
      (first
        | (go_at_call 130; refine (Hsv.out W5.drew).mono ?_; rintro e w6 ⟨rfl, hbx, hb6⟩; have HN6 : Hid (w6.heap[g4]? = some (.cells (Rq.cells ⟨3, from_, num, wk, wv, wd, key, fin, A, len, cap, bs⟩).toArray 98 (0, 0))) := Lib.hid ((hb6.block _ (blk_lt HN5.out)).trans HN5.out); have HS6 : Hid (SrvAt w2 w6 o f2 L q W5.heap.size g6 from_) := Lib.hid ⟨HO2.out, HB5d.out.trans (hb6.mono hg6b), hg6b, hg6a, hbx, (hb6.block _ (blk_lt HR5.out)).trans HR5.out⟩; have HB6 : Hid (Below w2.heap.size w2 w6) := Lib.hid (HB5d.out.trans (hb6.mono hg6b)); clear hbx hb6)
        | (go_at_call 197; refine (srv3_any w2 w6 o f2 L q W5.heap.size g6 from_ ⟨3, from_, num, wk, wv, wd, key, fin, A, len, cap, bs⟩ HS6.out hn).mono ?_; rintro e w7 ⟨rfl, v, hE, hO⟩; have HN7 : Hid (w7.heap[g4]? = some (.cells (Rq.cells ⟨3, from_, num, wk, wv, wd, key, fin, A, len, cap, bs⟩).toArray 98 (0, 0))) := Lib.hid (hE.kept2.blk HN6.out (blk_lt HN6.out) (by omega)); have HE := Lib.hid hE; obtain ⟨A3, n3, c3, rfl⟩ := slice_of_own hO; have HO := Lib.hid hO; clear hO; clear hE))
    have HO7 : Hid (OwAt w7 o f2 L q) := Lib.hid (HO2.out.shard HE.out.sh HE.out.kept)
    have K7 : Hid (Kept w w7 (fun b => b = o.p ∨ b = o.b ∨ b = o.t.p)) := Lib.hid ((K2.out.mono (fun b hb => by omega)).trans (HE.out.kept.mono (fun b hb => by omega)))
    have HZ7 : Hid (w7.heap[w.heap.size]? = some (.cells respZ 105 (0, 0))) := Lib.hid (HE.out.kept.blk HZ2.out hs2 (by omega))
    have HC7 : Hid (w7.heap[g6]? = some (.cells #[.int .i64 from_, .bool true, .slice A3 n3 c3, .slice none 0 0, .int .i64 0] 105 (0, 0))) := Lib.hid HE.out.ob2
    go_wp2_with (with_reducible first | refine wpList_load_row rfl 105 _ rfl g6 rfl 105 #[.int .i64 from_, .bool true, .slice A3 n3 c3, .slice none 0 0, .int .i64 0] (0, 0) _ HC7.out Tryz.underlying105 rfl (resp_info _ _ _ _ _) ?_ | refine wpList_store_row rfl 105 _ _ rfl w.heap.size #[.int .i64 from_, .bool true, .slice A3 n3 c3, .slice none 0 0, .int .i64 0] rfl rfl 105 _ HZ7.out (resp_info _ _ _ _ _) rfl (resp_one _ _ _ _ _ _ _ _ _) ?_)
    have HZ8 := setRow_heap w7 w.heap.size _ #[.int .i64 from_, .bool true, .slice A3 n3 c3, .slice none 0 0, .int .i64 0] 105 (0, 0) HZ7.out
    have hs6 : w.heap.size < w6.heap.size := Nat.lt_of_lt_of_le hs2 HB6.out.size
    obtain ⟨f1, f3⟩ := H.out.final HO7.out K7.out HZ7.out #[.int .i64 from_, .bool true, .slice A3 n3 c3, .slice none 0 0, .int .i64 0]
    refine bodyPost_ret (results_ct_row rfl _ _ w.heap.size _ _ _ _ rfl HZ8 Tryz.underlying105 rfl (resp_info _ _ _ _ _)) rfl ⟨f2, _, _, rfl, ?_, f1, f3, fun h => by simp at h⟩
    have hk9 : Kept w7 (w7.setRow w.heap.size #[.int .i64 from_, .bool true, .slice A3 n3 c3, .slice none 0 0, .int .i64 0]) (fun b => b = w.heap.size) := (Kept.refl w7 (fun b => b = w.heap.size)).setRow (Or.inl rfl) _
    exact ⟨rfl, _, rfl, ownsRow_base_a (ownsRow_kept HO.out hk9 (fun b hb => by subst hb; exact hs6)) (Nat.le_of_lt hs6)⟩
  · skip
    as_aux_lemma =>
    have HK : Hid (∀ X : World, X.heap[g4]? = some (.cells (Rq.cells ⟨4, from_, num, wk, wv, wd, key, fin, A, len, cap, bs⟩).toArray 98 (0, 0)) → X.cell? ⟨g4, 0, none⟩ = some (.int .u8 4) ∧ X.cell? ⟨g4, 1, none⟩ = some (.int .i64 from_) ∧ X.cell? ⟨g4, 2, none⟩ = some (.int .i64 num) ∧ X.cell? ⟨g4, 3, none⟩ = some (.string wk) ∧ X.cell? ⟨g4, 4, none⟩ = some (.string wv) ∧ X.cell? ⟨g4, 5, none⟩ = some (.bool wd) ∧ X.cell? ⟨g4, 6, none⟩ = some (.string key) ∧ X.cell? ⟨g4, 7, none⟩ = some (.string fin) ∧ X.cell? ⟨g4, 8, none⟩ = some (.slice A len cap)) := Lib.hid fun X hX => rqz 4 from_ num wk wv wd key fin A len cap hX
    have hix := tab_ix4 W5.heap.size
    unfold tabV at hix
    go_region_held3 (fun X => X.cell? ⟨g4, 0, none⟩ = some (.int .u8 4) ∧ X.cell? ⟨g4, 1, none⟩ = some (.int .i64 from_) ∧ X.cell? ⟨g4, 2, none⟩ = some (.int .i64 num) ∧ X.cell? ⟨g4, 3, none⟩ = some (.string wk) ∧ X.cell? ⟨g4, 4, none⟩ = some (.string wv) ∧ X.cell? ⟨g4, 5, none⟩ = some (.bool wd) ∧ X.cell? ⟨g4, 6, none⟩ = some (.string key) ∧ X.cell? ⟨g4, 7, none⟩ = some (.string fin) ∧ X.cell? ⟨g4, 8, none⟩ = some (.slice A len cap))
      (first | (refine HK.out _ ?_; (first | exact HN5.out | exact HN6.out | exact HN7.out)))
      (first
        | (go_at_call 130; refine (Hsv.out W5.drew).mono ?_; rintro e w6 ⟨rfl, hbx, hb6⟩; have HN6 : Hid (w6.heap[g4]? = some (.cells (Rq.cells ⟨4, from_, num, wk, wv, wd, key, fin, A, len, cap, bs⟩).toArray 98 (0, 0))) := Lib.hid ((hb6.block _ (blk_lt HN5.out)).trans HN5.out); have HS6 : Hid (SrvAt w2 w6 o f2 L q W5.heap.size g6 from_) := Lib.hid ⟨HO2.out, HB5d.out.trans (hb6.mono hg6b), hg6b, hg6a, hbx, (hb6.block _ (blk_lt HR5.out)).trans HR5.out⟩; have HB6 : Hid (Below w2.heap.size w2 w6) := Lib.hid (HB5d.out.trans (hb6.mono hg6b)); clear hbx hb6)
        | (go_at_call 198; refine (srv4_any w2 w6 o f2 L q W5.heap.size g6 from_ ⟨4, from_, num, wk, wv, wd, key, fin, A, len, cap, bs⟩ HS6.out hs hn).mono ?_; rintro e w7 ⟨rfl, hE⟩; have HN7 : Hid (w7.heap[g4]? = some (.cells (Rq.cells ⟨4, from_, num, wk, wv, wd, key, fin, A, len, cap, bs⟩).toArray 98 (0, 0))) := Lib.hid (hE.kept2.blk HN6.out (blk_lt HN6.out) (by omega)); have HE := Lib.hid hE; clear hE))
    have HO7 : Hid (OwAt w7 o f2 (collH L num) q) := Lib.hid (HO2.out.shard HE.out.sh HE.out.kept)
    have K7 : Hid (Kept w w7 (fun b => b = o.p ∨ b = o.b ∨ b = o.t.p)) := Lib.hid ((K2.out.mono (fun b hb => by omega)).trans (HE.out.kept.mono (fun b hb => by omega)))
    have HZ7 : Hid (w7.heap[w.heap.size]? = some (.cells respZ 105 (0, 0))) := Lib.hid (HE.out.kept.blk HZ2.out hs2 (by omega))
    have HC7 : Hid (w7.heap[g6]? = some (.cells #[.int .i64 from_, .bool true, .slice none 0 0, .slice none 0 0, .int .i64 (goneH L num : Nat)] 105 (0, 0))) := Lib.hid HE.out.ob2
    go_wp2_with (with_reducible first | refine wpList_load_row rfl 105 _ rfl g6 rfl 105 #[.int .i64 from_, .bool true, .slice none 0 0, .slice none 0 0, .int .i64 (goneH L num : Nat)] (0, 0) _ HC7.out Tryz.underlying105 rfl (resp_info _ _ _ _ _) ?_ | refine wpList_store_row rfl 105 _ _ rfl w.heap.size #[.int .i64 from_, .bool true, .slice none 0 0, .slice none 0 0, .int .i64 (goneH L num : Nat)] rfl rfl 105 _ HZ7.out (resp_info _ _ _ _ _) rfl (resp_one _ _ _ _ _ _ _ _ _) ?_)
    have HZ8 := setRow_heap w7 w.heap.size _ #[.int .i64 from_, .bool true, .slice none 0 0, .slice none 0 0, .int .i64 (goneH L num : Nat)] 105 (0, 0) HZ7.out
    have hs6 : w.heap.size < w6.heap.size := Nat.lt_of_lt_of_le hs2 HB6.out.size
    obtain ⟨f1, f3⟩ := H.out.final HO7.out K7.out HZ7.out #[.int .i64 from_, .bool true, .slice none 0 0, .slice none 0 0, .int .i64 (goneH L num : Nat)]
    refine bodyPost_ret (results_ct_row rfl _ _ w.heap.size _ _ _ _ rfl HZ8 Tryz.underlying105 rfl (resp_info _ _ _ _ _)) rfl ⟨f2, _, _, rfl, ?_, f1, f3, fun h => by simp at h⟩
    exact ⟨rfl, rfl⟩
  · skip
    as_aux_lemma =>
    have HK : Hid (∀ X : World, X.heap[g4]? = some (.cells (Rq.cells ⟨5, from_, num, wk, wv, wd, key, fin, A, len, cap, bs⟩).toArray 98 (0, 0)) → X.cell? ⟨g4, 0, none⟩ = some (.int .u8 5) ∧ X.cell? ⟨g4, 1, none⟩ = some (.int .i64 from_) ∧ X.cell? ⟨g4, 2, none⟩ = some (.int .i64 num) ∧ X.cell? ⟨g4, 3, none⟩ = some (.string wk) ∧ X.cell? ⟨g4, 4, none⟩ = some (.string wv) ∧ X.cell? ⟨g4, 5, none⟩ = some (.bool wd) ∧ X.cell? ⟨g4, 6, none⟩ = some (.string key) ∧ X.cell? ⟨g4, 7, none⟩ = some (.string fin) ∧ X.cell? ⟨g4, 8, none⟩ = some (.slice A len cap)) := Lib.hid fun X hX => rqz 5 from_ num wk wv wd key fin A len cap hX
    have hix := tab_ix5 W5.heap.size
    unfold tabV at hix
    go_region_held3 (fun X => X.cell? ⟨g4, 0, none⟩ = some (.int .u8 5) ∧ X.cell? ⟨g4, 1, none⟩ = some (.int .i64 from_) ∧ X.cell? ⟨g4, 2, none⟩ = some (.int .i64 num) ∧ X.cell? ⟨g4, 3, none⟩ = some (.string wk) ∧ X.cell? ⟨g4, 4, none⟩ = some (.string wv) ∧ X.cell? ⟨g4, 5, none⟩ = some (.bool wd) ∧ X.cell? ⟨g4, 6, none⟩ = some (.string key) ∧ X.cell? ⟨g4, 7, none⟩ = some (.string fin) ∧ X.cell? ⟨g4, 8, none⟩ = some (.slice A len cap))
      (first | (refine HK.out _ ?_; (first | exact HN5.out | exact HN6.out | exact HN7.out)))
      (first
        | (go_at_call 130; refine (Hsv.out W5.drew).mono ?_; rintro e w6 ⟨rfl, hbx, hb6⟩; have HN6 : Hid (w6.heap[g4]? = some (.cells (Rq.cells ⟨5, from_, num, wk, wv, wd, key, fin, A, len, cap, bs⟩).toArray 98 (0, 0))) := Lib.hid ((hb6.block _ (blk_lt HN5.out)).trans HN5.out); have HS6 : Hid (SrvAt w2 w6 o f2 L q W5.heap.size g6 from_) := Lib.hid ⟨HO2.out, HB5d.out.trans (hb6.mono hg6b), hg6b, hg6a, hbx, (hb6.block _ (blk_lt HR5.out)).trans HR5.out⟩; have HB6 : Hid (Below w2.heap.size w2 w6) := Lib.hid (HB5d.out.trans (hb6.mono hg6b)); clear hbx hb6)
        | (go_at_call 199; refine (srv5_any w2 w6 o f2 L q W5.heap.size g6 from_ ⟨5, from_, num, wk, wv, wd, key, fin, A, len, cap, bs⟩ HS6.out hn (HBy.out.kept (X := fun _ => False) (Kept.of_below HB6.out) (fun _ h => h.elim)).row HBy.out.lim).mono ?_; rintro e w7 ⟨rfl, v, hs, hE, hO, hpl, hko⟩; have HN7 : Hid (w7.heap[g4]? = some (.cells (Rq.cells ⟨5, from_, num, wk, wv, wd, key, fin, A, len, cap, bs⟩).toArray 98 (0, 0))) := Lib.hid (hE.kept2.blk HN6.out (blk_lt HN6.out) (by omega)); have HE := Lib.hid hE; obtain ⟨A3, n3, c3, rfl⟩ := slice_of_own hO.1; have HO := Lib.hid hO; have Hpl := Lib.hid hpl; have KO := Lib.hid hko; clear hO hpl hko; clear hE))
    have HO7 : Hid (OwAt w7 o f2 L q) := Lib.hid (HO2.out.shard HE.out.sh HE.out.kept)
    have K7 : Hid (Kept w w7 (fun b => b = o.p ∨ b = o.b ∨ b = o.t.p)) := Lib.hid ((K2.out.mono (fun b hb => by omega)).trans (HE.out.kept.mono (fun b hb => by omega)))
    have HZ7 : Hid (w7.heap[w.heap.size]? = some (.cells respZ 105 (0, 0))) := Lib.hid (HE.out.kept.blk HZ2.out hs2 (by omega))
    have HC7 : Hid (w7.heap[g6]? = some (.cells #[.int .i64 from_, .bool true, .slice none 0 0, .slice A3 n3 c3, .int .i64 0] 105 (0, 0))) := Lib.hid HE.out.ob2
    go_wp2_with (with_reducible first | refine wpList_load_row rfl 105 _ rfl g6 rfl 105 #[.int .i64 from_, .bool true, .slice none 0 0, .slice A3 n3 c3, .int .i64 0] (0, 0) _ HC7.out Tryz.underlying105 rfl (resp_info _ _ _ _ _) ?_ | refine wpList_store_row rfl 105 _ _ rfl w.heap.size #[.int .i64 from_, .bool true, .slice none 0 0, .slice A3 n3 c3, .int .i64 0] rfl rfl 105 _ HZ7.out (resp_info _ _ _ _ _) rfl (resp_one _ _ _ _ _ _ _ _ _) ?_)
    have HZ8 := setRow_heap w7 w.heap.size _ #[.int .i64 from_, .bool true, .slice none 0 0, .slice A3 n3 c3, .int .i64 0] 105 (0, 0) HZ7.out
    have hs6 : w.heap.size < w6.heap.size := Nat.lt_of_lt_of_le hs2 HB6.out.size
    obtain ⟨f1, f3⟩ := H.out.final HO7.out K7.out HZ7.out #[.int .i64 from_, .bool true, .slice none 0 0, .slice A3 n3 c3, .int .i64 0]
    refine bodyPost_ret (results_ct_row rfl _ _ w.heap.size _ _ _ _ rfl HZ8 Tryz.underlying105 rfl (resp_info _ _ _ _ _)) rfl ⟨f2, _, _, rfl, ?_, f1, f3, fun _ => ?_⟩
    have hk9 : Kept w7 (w7.setRow w.heap.size #[.int .i64 from_, .bool true, .slice none 0 0, .slice A3 n3 c3, .int .i64 0]) (fun b => b = w.heap.size) := (Kept.refl w7 (fun b => b = w.heap.size)).setRow (Or.inl rfl) _
    · exact ⟨rfl, _, _, rfl, (hrow_kept HO.out hk9 (fun b hb => by subst hb; exact hs6)).base (Nat.le_of_lt hs6), Hpl.out⟩
    · refine (((K2.out.mono (fun b hb => ?_)).trans (Kept.of_below HB6.out)).trans3 KO.out (fun i hi => Or.inr (by omega))).setRow (Or.inr (Nat.le_refl _)) _
      obtain ⟨cb, h1, -⟩ := H.out.rg.buf.hb
      rcases hb with rfl | rfl
      · exact ⟨_, _, _, H.out.rg.hp⟩
      · exact ⟨_, _, _, h1⟩
end Go.Proofs.YtafghiekpgjniaaGreatDoor


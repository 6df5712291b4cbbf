/- shard.Shard: its memory; lists of keys with versions as they lie in memory. -/
import Derived.Test.YtfpcgfgofemhoaaGreatShq
import Derived.Test.YtfpcgfgofemhoaaGreatCh3
namespace Go.Proofs.YtfpcgfgofemhoaaGreat
open Go.RowKit
set_option linter.unusedVariables false
set_option linter.unusedSimpArgs false

/-- A list of versions as a value. -/
structure SV where
  A : Option Addr
  len : Nat
  cap : Nat
  vs : List Ver
def SV.v (s : SV) : Value := .slice s.A s.len s.cap
def plainM (m : List (ByteArray × SV)) : Hs := m.map fun q => (q.1, q.2.vs)
theorem plainM_keys (m : List (ByteArray × SV)) : (plainM m).map (·.1) = m.map (·.1) := by simp [plainM]
theorem mget_plainM (m : List (ByteArray × SV)) (k : ByteArray) : mget (plainM m) k = (mget m k).map SV.vs := mget_map SV.vs m k
theorem plainM_mput (m : List (ByteArray × SV)) (k : ByteArray) (s : SV) : plainM (mput m k s) = mput (plainM m) k s.vs := by
  unfold plainM
  induction m with
  | nil => rfl
  | cons q r ih => obtain ⟨a, u⟩ := q; simp only [mput, List.map_cons]; split <;> simp_all
/-- A row whose cells can be read lies in no block that is a map's. -/
theorem RowAt.keptC {α : Type} {cells : α → List Value} {size : Nat} {w w' : World} {B n : Nat} {A : Option Addr} {xs : List α} {X : Nat → Prop} (h : RowAt cells size w B A n xs) (hc : ∀ x ∈ xs, cells x ≠ []) (hB : B ≤ w.heap.size) (k : Kept w w' X) (hX : ∀ b, X b → ∀ cs t fr, w.heap[b]? ≠ some (.cells cs t fr)) : RowAt cells size w' B A n xs := by
  refine ⟨h.1, fun hn => ?_⟩
  obtain ⟨b, off, e, hb, hx⟩ := h.2 hn
  refine ⟨b, off, e, hb, fun i x hi j u hu => ?_⟩
  have h1 := hx i x hi j u hu
  have h2 : ¬ X b := fun hxb => by
    have := hX b hxb
    revert h1
    unfold World.cell?
    simp only
    cases hq : w.heap[b]? with
    | none => simp
    | some o =>
      cases o with
      | cells cs t fr => exact absurd hq (this cs t fr)
      | _ => simp
  rw [k.cell (by omega) h2]; exact h1
abbrev NoC (w : World) (b : Nat) : Prop := ∀ cs t fr, w.heap[b]? ≠ some (.cells cs t fr)
theorem OwnM.noC {K V : Type} {κ : K → Value} {ν : V → Value} {w : World} {b : Nat} {m : List (K × V)} (h : OwnM κ ν w b m) : NoC w b := fun cs t fr hc => by
  obtain ⟨es, clock, hb, -⟩ := h
  rw [hb] at hc; cases hc
structure SB where
  g : Nat
  p : Nat
/-- The shard's pointer is ⟨t.g⟩, its map lies in t.p; it holds L. -/
def ShAt (w : World) (t : SB) (L : Hs) : Prop := ∃ m : List (ByteArray × SV),
  w.heap[t.g]? = some (.cells #[.map (some t.p)] 109 (0, 0)) ∧ OwnM Value.string SV.v w t.p m ∧
  (∀ q ∈ m, VsAt w w.heap.size q.2.A q.2.len q.2.vs ∧ q.2.len ≤ q.2.cap ∧ (q.2.A = none → q.2.cap = 0) ∧ TyV w q.2.A q.2.len) ∧ MOk (plainM m) ∧ cont (plainM m) = L
section
variable {w w' : World} {t : SB} {L : Hs} {X : Nat → Prop}
theorem ShAt.ok (h : ShAt w t L) : HsOk L := by obtain ⟨m, -, -, -, h4, rfl⟩ := h; exact cont_ok h4
theorem ShAt.lt (h : ShAt w t L) : t.g < w.heap.size ∧ t.p < w.heap.size := by obtain ⟨m, h1, h2, -⟩ := h; exact ⟨blk_lt h1, h2.lt⟩
theorem ShAt.noC (h : ShAt w t L) : NoC w t.p := by obtain ⟨m, -, h2, -⟩ := h; exact h2.noC
theorem ShAt.ne (h : ShAt w t L) : t.g ≠ t.p := by
  obtain ⟨m, h1, h2, -⟩ := h
  intro e; rw [e] at h1; exact h2.noC _ _ _ h1
theorem ver_ne (x : Ver) : Ver.cells x ≠ [] := by simp [Ver.cells]
/-- No block of versions. -/
abbrev NoV (w : World) (b : Nat) : Prop := ∀ cs fr, w.heap[b]? ≠ some (.cells cs 104 fr)
theorem VsAt.keptV {A : Option Addr} {n B : Nat} {vs : List Ver} (h : VsAt w B A n vs) (hty : TyV w A n) (k : Kept w w' X) (hB : B ≤ w.heap.size) (hX : ∀ b, X b → NoV w b) : VsAt w' B A n vs := by
  refine ⟨h.1, fun hn => ?_⟩
  obtain ⟨b, off, e, hb, hx⟩ := h.2 hn
  refine ⟨b, off, e, hb, fun i x hi j u hu => ?_⟩
  have h2 : ¬ X b := fun hxb => by
    obtain ⟨cs, fr, h3⟩ := hty _ e hn
    exact hX b hxb cs fr h3
  rw [k.cell (by omega) h2]; exact hx i x hi j u hu
theorem TyV.kept {A : Option Addr} {n : Nat} (h : TyV w A n) (k : Kept w w' X) (hX : ∀ b, X b → NoV w b) : TyV w' A n := fun a e hn => by
  obtain ⟨cs, fr, h1⟩ := h a e hn
  exact ⟨cs, fr, k.blk h1 (blk_lt h1) (fun hx => hX _ hx _ _ h1)⟩
/-- What holds where all blocks but some that aren't the shard's are as they were. -/
theorem ShAt.keptV (h : ShAt w t L) (k : Kept w w' X) (hX : ∀ b, X b → b ≠ t.p ∧ b ≠ t.g ∧ NoV w b) : ShAt w' t L := by
  obtain ⟨m, h1, h2, h3, h4, h5⟩ := h
  refine ⟨m, k.blk h1 (blk_lt h1) (fun hx => (hX _ hx).2.1 rfl), h2.of_block (k.block _ h2.lt (fun hx => (hX _ hx).1 rfl)), fun q hq => ?_, h4, h5⟩
  obtain ⟨g1, g2, g3, g4⟩ := h3 q hq
  exact ⟨(VsAt.keptV g1 g4 k (Nat.le_refl _) (fun b hb => (hX b hb).2.2)).more k.size, g2, g3, g4.kept k (fun b hb => (hX b hb).2.2)⟩
/-- What holds where all blocks but some maps are as they were. -/
theorem ShAt.kept (h : ShAt w t L) (k : Kept w w' X) (hX : ∀ b, X b → b ≠ t.p ∧ NoC w b) : ShAt w' t L :=
  h.keptV k fun b hb => ⟨(hX b hb).1, fun e => by
    obtain ⟨m, h1, -⟩ := h
    exact (hX b hb).2 _ _ _ (e ▸ h1), fun cs fr => (hX b hb).2 cs _ fr⟩
theorem ShAt.below (h : ShAt w t L) (hb : Below w.heap.size w w') : ShAt w' t L := h.kept (X := fun _ => False) (Kept.of_below hb) (fun b hb => hb.elim)
theorem ShAt.below2 {B : Nat} (h : ShAt w t L) (hb : Below B w w') (hg : t.g < B) (hp : t.p < B) (hr : w.heap.size ≤ B) : ShAt w' t L := h.below (hb.mono hr)
theorem ShAt.alloc (h : ShAt w t L) (o : Obj) : ShAt (w.alloc o) t L := h.below ((Below.refl _ _).alloc (Nat.le_refl _) _)
end
/-- A key with its versions as they lie in memory. -/
structure HR where
  key : ByteArray
  A : Option Addr
  len : Nat
  cap : Nat
  vs : List Ver
def HR.cells (h : HR) : List Value := [.string h.key, .slice h.A h.len h.cap]
theorem len_hr (xs : List HR) : ∀ x ∈ xs, (HR.cells x).length = 2 := fun _ _ => rfl
def HdsAt (w : World) (B : Nat) (A : Option Addr) (n : Nat) (hs : List HR) : Prop := RowAt HR.cells 2 w B A n hs ∧ ∀ h ∈ hs, VsAt w B h.A h.len h.vs ∧ h.len ≤ h.cap ∧ (h.A = none → h.cap = 0)
def plainR (hs : List HR) : Hs := hs.map fun h => (h.key, h.vs)
theorem HdsAt.below {w w' : World} {B n : Nat} {A : Option Addr} {hs : List HR} (h : HdsAt w B A n hs) (hb : Below B w w') : HdsAt w' B A n hs :=
  ⟨h.1.below hb, fun r hr => ⟨(h.2 r hr).1.below hb, (h.2 r hr).2⟩⟩
theorem HdsAt.more {w : World} {B B' n : Nat} {A : Option Addr} {hs : List HR} (h : HdsAt w B A n hs) (hB : B ≤ B') : HdsAt w B' A n hs :=
  ⟨h.1.more hB, fun r hr => ⟨(h.2 r hr).1.more hB, (h.2 r hr).2⟩⟩
theorem hr_ne (x : HR) : HR.cells x ≠ [] := by simp [HR.cells]
theorem HdsAt.keptC {w w' : World} {B n : Nat} {A : Option Addr} {hs : List HR} {X : Nat → Prop} (h : HdsAt w B A n hs) (hB : B ≤ w.heap.size) (k : Kept w w' X) (hX : ∀ b, X b → NoC w b) : HdsAt w' B A n hs :=
  ⟨h.1.keptC (fun x _ => hr_ne x) hB k hX, fun r hr => ⟨(h.2 r hr).1.keptC (fun x _ => ver_ne x) hB k hX, (h.2 r hr).2⟩⟩
theorem HdsAt.cell2 {w : World} {B n i : Nat} {A : Option Addr} {hs : List HR} (h : HdsAt w B A n hs) (hi : i < n) :
    ∃ b off x, A = some ⟨b, off, none⟩ ∧ b < B ∧ hs[i]? = some x ∧ w.cell? ⟨b, off + i * 2, none⟩ = some (.string x.key) ∧ w.cell? ⟨b, off + i * 2 + 1, none⟩ = some (.slice x.A x.len x.cap) ∧ VsAt w B x.A x.len x.vs ∧ x.len ≤ x.cap ∧ (x.A = none → x.cap = 0) := by
  obtain ⟨b, off, x, e, hb, hx, hc⟩ := h.1.at_ hi
  exact ⟨b, off, x, e, hb, hx, hc 0 _ rfl, hc 1 _ rfl, h.2 x (List.mem_of_getElem? hx)⟩
end Go.Proofs.YtfpcgfgofemhoaaGreat

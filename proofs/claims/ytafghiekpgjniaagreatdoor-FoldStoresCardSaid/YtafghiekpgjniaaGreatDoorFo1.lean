/- XFo1: out of XFold1 XFold2 XFold3 XFold4 XFold5 XFold6 XFp XFlp XFq XFr0 XFr1 XFr2 XFr3 (pick.py). -/
import Derived.Test.YtafghiekpgjniaaGreatDoorCore
import Derived.Test.YtafghiekpgjniaaGreatDoorSort
import Derived.Test.YtafghiekpgjniaaGreatDoorFold1
import Derived.Test.YtafghiekpgjniaaGreatDoorIter
import Derived.Maps.Own
import Derived.Test.YtafghiekpgjniaaGreatDoorMap
import Derived.Sort.Walk0
namespace Go.Proofs.YtafghiekpgjniaaGreatDoor
open Go.RowKit
set_option linter.unusedVariables false
set_option linter.unusedSimpArgs false

section
open Go.Maps
theorem kstr : Keying Tryz.prog 9 Value.string := keying_string Tryz.underlying9
end
structure Ent where
  key : ByteArray
  val : ByteArray
def Ent.cells (x : Ent) : List Value := [.string x.key, .string x.val]
theorem one_ent (x : Ent) : ∀ (u : Value), u ∈ x.cells → u.oneCell' = true := by
  intro u hu; simp only [Ent.cells, List.mem_cons, List.not_mem_nil, or_false] at hu; rcases hu with rfl | rfl <;> rfl
abbrev KV := List (ByteArray × ByteArray)
def stepM (m : KV) (x : Wr) : KV := if x.drop then mdel m x.key else mput m x.key x.val
def playM (m : KV) (ws : List Wr) : KV := ws.foldl stepM m
def stepE (st : List Ent) (x : Wr) : List Ent := st.filter (fun e => ltB e.key x.key) ++ (if x.drop then [] else [⟨x.key, x.val⟩]) ++ st.filter (fun e => ltB x.key e.key)
def playE (st : List Ent) (ws : List Wr) : List Ent := ws.foldl stepE st
def allW (rs : List RTx) (n : Nat) : List Wr := (rs.take n).flatMap RTx.ws
def foldM (rs : List RTx) (n : Nat) : KV := playM [] (allW rs n)
def foldE (rs : List RTx) (n : Nat) : List Ent := playE [] (allW rs n)
theorem allW_succ {rs : List RTx} {n : Nat} {r : RTx} (h : rs[n]? = some r) : allW rs (n + 1) = allW rs n ++ r.ws := by
  unfold allW; rw [List.take_add_one, h]; simp
theorem foldM_succ {rs : List RTx} {n : Nat} {r : RTx} (h : rs[n]? = some r) : foldM rs (n + 1) = playM (foldM rs n) r.ws := by
  unfold foldM; rw [allW_succ h]; simp [playM]
theorem playM_snoc {m : KV} {ws : List Wr} {k : Nat} {x : Wr} (h : ws[k]? = some x) : playM m (ws.take (k + 1)) = stepM (playM m (ws.take k)) x := by
  unfold playM; rw [List.take_add_one, h]; simp [List.foldl_append]
def RisesE (st : List Ent) : Prop := st.Pairwise fun a b => ltB a.key b.key = true
theorem RisesE.keys {st : List Ent} (h : RisesE st) : Rises (st.map (·.key)) := List.pairwise_map.2 h
def Agree (st : List Ent) (m : KV) : Prop := RisesE st ∧ (m.map (·.1)).Nodup ∧ ∀ e : Ent, e ∈ st ↔ mget m e.key = some e.val
theorem rises_step {st : List Ent} (h : RisesE st) (x : Wr) : RisesE (stepE st x) := by
  unfold stepE RisesE
  rw [List.pairwise_append, List.pairwise_append]
  refine ⟨⟨h.filter _, ?_, ?_⟩, h.filter _, ?_⟩
  · split <;> simp
  · intro a ha b hb
    split at hb
    · simp at hb
    · simp at hb; subst hb; simpa using (List.mem_filter.1 ha).2
  · intro a ha b hb
    have h2 : ltB x.key b.key = true := by simpa using (List.mem_filter.1 hb).2
    rcases List.mem_append.1 ha with ha | ha
    · have h1 : ltB a.key x.key = true := by simpa using (List.mem_filter.1 ha).2
      exact ltB_trans h1 h2
    · split at ha
      · simp at ha
      · simp at ha; subst ha; exact h2
theorem mem_step (st : List Ent) (x : Wr) (e : Ent) : e ∈ stepE st x ↔ (e ∈ st ∧ e.key ≠ x.key) ∨ (x.drop = false ∧ e = ⟨x.key, x.val⟩) := by
  unfold stepE
  simp only [List.mem_append, List.mem_filter]
  have hmid : e ∈ (if x.drop then ([] : List Ent) else [⟨x.key, x.val⟩]) ↔ (x.drop = false ∧ e = ⟨x.key, x.val⟩) := by
    cases x.drop <;> simp
  rw [hmid]
  constructor
  · rintro ((⟨h1, h2⟩ | h) | ⟨h1, h2⟩)
    · exact Or.inl ⟨h1, ltB_ne h2⟩
    · exact Or.inr h
    · exact Or.inl ⟨h1, fun e => ltB_ne h2 e.symm⟩
  · rintro (⟨h1, h2⟩ | h)
    · rcases ltB_or e.key x.key with h3 | h3 | h3
      · exact Or.inl (Or.inl ⟨h1, h3⟩)
      · exact absurd h3 h2
      · exact Or.inr ⟨h1, h3⟩
    · exact Or.inl (Or.inr h)
theorem agree_step {st : List Ent} {m : KV} (h : Agree st m) (x : Wr) : Agree (stepE st x) (stepM m x) := by
  refine ⟨rises_step h.1 x, ?_, fun e => ?_⟩
  · unfold stepM; split
    · exact nodup_mdel _ h.2.1
    · exact nodup_mput _ _ h.2.1
  · rw [mem_step, h.2.2]
    unfold stepM
    cases hd : x.drop
    · simp only [Bool.false_eq_true, if_false, true_and]
      rw [mget_mput]
      by_cases hk : x.key = e.key
      · rw [if_pos hk]
        constructor
        · rintro (⟨-, h2⟩ | h2)
          · exact absurd hk.symm h2
          · rw [h2]
        · intro h2; injection h2 with h2; right; cases e; simp_all
      · rw [if_neg hk]
        constructor
        · rintro (⟨h1, -⟩ | h2)
          · exact h1
          · subst h2; exact absurd rfl hk
        · intro h2; exact Or.inl ⟨h2, fun e => hk e.symm⟩
    · simp only [if_true, Bool.true_eq_false, false_and, or_false]
      rw [mget_mdel h.2.1]
      by_cases hk : x.key = e.key
      · rw [if_pos hk]; simp [hk]
      · rw [if_neg hk]; exact ⟨fun h => h.1, fun h => ⟨h, fun e => hk e.symm⟩⟩
theorem agree_play {st : List Ent} {m : KV} (h : Agree st m) (ws : List Wr) : Agree (playE st ws) (playM m ws) := by
  induction ws generalizing st m with
  | nil => exact h
  | cons x r ih => exact ih (agree_step h x)
theorem agree_fold (rs : List RTx) (n : Nat) : Agree (foldE rs n) (foldM rs n) := agree_play (st := []) (m := []) ⟨List.Pairwise.nil, by simp, fun e => by simp [mget]⟩ _
/-- A map's entries, rising. -/
def entsOf (m : KV) : List Ent := (sortedK m).map fun k => ⟨k, (mget m k).getD ⟨#[]⟩⟩
theorem agree_ents {st : List Ent} {m : KV} (h : Agree st m) : entsOf m = st := by
  have hk : sortedK m = st.map (·.key) := by
    refine rises_eq (rises_sortedK h.2.1) h.1.keys fun k => ?_
    rw [mem_sortedK]
    constructor
    · intro hm
      cases hg : mget m k with
      | none => exact absurd hm ((mget_none_iff _ _).1 hg)
      | some v => exact List.mem_map.2 ⟨⟨k, v⟩, (h.2.2 _).2 hg, rfl⟩
    · intro hm
      obtain ⟨e, he, rfl⟩ := List.mem_map.1 hm
      have := (h.2.2 e).1 he
      exact Classical.byContradiction fun hc => by rw [(mget_none_iff _ _).2 hc] at this; cases this
  unfold entsOf
  rw [hk, List.map_map]
  conv => rhs; rw [← List.map_id st]
  refine List.map_congr_left fun e he => ?_
  simp [(h.2.2 e).1 he]
theorem ents_fold (rs : List RTx) (n : Nat) : entsOf (foldM rs n) = foldE rs n := agree_ents (agree_fold rs n)

/-- Does a key lie in a stretch? -/
def inB (key fin k : ByteArray) : Bool := !ltB k key && (decide (fin.size = 0) || ltB k fin)
/-- The last write of a key. -/
def lastW (ws : List Wr) (k : ByteArray) : Option Wr := ws.reverse.find? fun x => decide (x.key = k)
theorem lastW_snoc (ws : List Wr) (x : Wr) (k : ByteArray) : lastW (ws ++ [x]) k = if x.key = k then some x else lastW ws k := by
  unfold lastW; rw [List.reverse_append]; simp [List.find?_cons]; split <;> simp_all
theorem mget_playM {m : KV} (hn : (m.map (·.1)).Nodup) (ws : List Wr) (k : ByteArray) : mget (playM m ws) k = match lastW ws k with | none => mget m k | some x => if x.drop then none else some x.val := by
  have hnd : ∀ (m : KV), (m.map (·.1)).Nodup → ∀ ws, ((playM m ws).map (·.1)).Nodup := fun m h ws => by
    induction ws generalizing m with
    | nil => exact h
    | cons x r ih => refine ih _ ?_; unfold stepM; split; exact nodup_mdel _ h; exact nodup_mput _ _ h
  obtain ⟨l, rfl⟩ : ∃ l : List Wr, ws = l.reverse := ⟨ws.reverse, by simp⟩
  induction l with
  | nil => simp [lastW, playM]
  | cons x r ih =>
    rw [List.reverse_cons, lastW_snoc, show playM m (r.reverse ++ [x]) = stepM (playM m r.reverse) x from by simp [playM]]
    unfold stepM
    by_cases hk : x.key = k
    · rw [if_pos hk]
      cases hd : x.drop
      · simp [mget_mput, hk, hd]
      · simp [mget_mdel (hnd m hn _), hk, hd]
    · rw [if_neg hk]
      cases hd : x.drop
      · simp only [Bool.false_eq_true, if_false]; rw [mget_mput, if_neg hk, ih]
      · simp only [if_true]; rw [mget_mdel (hnd m hn _), if_neg hk, ih]
theorem foldM_nodup (rs : List RTx) (n : Nat) : ((foldM rs n).map (·.1)).Nodup := (agree_fold rs n).2.1
/-! ### stretches -/
theorem ltB_nil {k fin : ByteArray} (h : fin.size = 0) : ltB k fin = false := by
  have : kL fin = [] := List.eq_nil_of_length_eq_zero (by unfold kL; rw [Array.length_toList]; exact h)
  unfold ltB; rw [this, decide_eq_false_iff_not]; exact List.not_lt_nil _
theorem inB_all {key fin : ByteArray} (h : key.size = 0) (h' : fin.size = 0) (k : ByteArray) : inB key fin k = true := by simp [inB, ltB_nil h, h']
theorem cut_all {rs : List RTx} {n : Nat} {key fin : ByteArray} (h : key.size = 0) (h' : fin.size = 0) : (foldE rs n).filter (fun e => inB key fin e.key) = foldE rs n :=
  List.filter_eq_self.2 fun e _ => inB_all h h' _
theorem lastW_some {ws : List Wr} {k : ByteArray} {x : Wr} (h : lastW ws k = some x) : x ∈ ws ∧ x.key = k := by
  unfold lastW at h
  exact ⟨List.mem_reverse.1 (List.mem_of_find?_eq_some h), by simpa using List.find?_some h⟩
theorem mem_allW {rs : List RTx} {n : Nat} {x : Wr} (h : x ∈ allW rs n) : ∃ r ∈ rs, x ∈ r.ws := by
  unfold allW at h
  obtain ⟨r, hr, hx⟩ := List.mem_flatMap.1 h
  exact ⟨r, List.mem_of_mem_take hr, hx⟩
theorem fold_written {rs : List RTx} {n : Nat} {k : ByteArray} {v : ByteArray} (h : mget (foldM rs n) k = some v) : ∃ r ∈ rs, ∃ x ∈ r.ws, x.key = k := by
  unfold foldM at h
  rw [mget_playM (m := []) (by simp)] at h
  cases hl : lastW (allW rs n) k with
  | none => rw [hl] at h; simp [mget] at h
  | some x =>
    obtain ⟨h1, h2⟩ := lastW_some hl
    obtain ⟨r, hr, hx⟩ := mem_allW h1
    exact ⟨r, hr, x, hx, h2⟩
theorem less_eq (a b : ByteArray) : Op.bytesLess a.toList b.toList = ltB a b := by
  rw [Go.Proofs.bytesLess_eq, ByteArray.toList_eq, ByteArray.toList_eq]; rfl
def argB (rs : List RTx) (first : Int) : Bool := decide (0 ≤ first) && decide (first ≤ (rs.length : Int))
def scanErr (rs : List RTx) (first : Int) : Int := if logErr rs 1 ≠ 0 then logErr rs 1 else if argB rs first then 0 else 1
def scanL (rs : List RTx) (first : Int) (key fin : ByteArray) : List Ent := if scanErr rs first = 0 then (foldE rs first.toNat).filter (fun e => inB key fin e.key) else []
theorem scanErr_zero {rs : List RTx} {first : Int} (h : scanErr rs first = 0) : logErr rs 1 = 0 ∧ 0 ≤ first ∧ first ≤ (rs.length : Int) := by
  unfold scanErr at h
  split at h
  · rename_i hc; exact absurd h hc
  · rename_i hc
    split at h
    · rename_i ha; simp only [argB, Bool.and_eq_true, decide_eq_true_eq] at ha; exact ⟨Classical.byContradiction hc, ha.1, ha.2⟩
    · cases h
/-- How many entries a fold can have; how long its keys. -/
theorem len_stepM (m : KV) (x : Wr) : (stepM m x).length ≤ m.length + 1 := by
  unfold stepM; split
  · exact Nat.le_succ_of_le (sub_mdel _ _).length_le
  · exact length_mput_le _ _ _
theorem len_playM (m : KV) (ws : List Wr) : (playM m ws).length ≤ m.length + ws.length := by
  induction ws generalizing m with
  | nil => simp [playM]
  | cons x r ih => have h1 := ih (stepM m x); have h2 := len_stepM m x; rw [show playM m (x :: r) = playM (stepM m x) r from rfl, List.length_cons]; omega
theorem len_allW {rs : List RTx} (he : logErr rs 1 = 0) (n : Nat) : (allW rs n).length ≤ 32 * n := by
  induction n with
  | zero => simp [allW]
  | succ n ih =>
    cases hx : rs[n]? with
    | none =>
      have : allW rs (n + 1) = allW rs n := by unfold allW; rw [List.take_add_one, hx]; simp
      rw [this]; omega
    | some r =>
      have h1 := (logErr_ok he hx).1
      simp only [txB, Bool.and_eq_true, decide_eq_true_eq] at h1
      rw [allW_succ hx, List.length_append]; omega
theorem len_foldM {rs : List RTx} (he : logErr rs 1 = 0) {n : Nat} (hn : n ≤ rs.length) : (foldM rs n).length ≤ 2097152 := by
  have h1 := len_playM [] (allW rs n)
  have h2 := len_allW he n
  have h3 := logErr_le he
  simp only [List.length_nil] at h1
  unfold foldM; omega
theorem len_foldE (rs : List RTx) (n : Nat) : (foldE rs n).length = (foldM rs n).length := by rw [← ents_fold]; simp [entsOf, len_sortedK]
theorem len_foldE_le {rs : List RTx} (he : logErr rs 1 = 0) {n : Nat} (hn : n ≤ rs.length) : (foldE rs n).length ≤ 2097152 := by rw [len_foldE]; exact len_foldM he hn
theorem key_foldM {rs : List RTx} (he : logErr rs 1 = 0) {n : Nat} : ∀ p ∈ foldM rs n, p.1.size ≤ 64 := fun p hp => by
  have h1 := mget_of_mem (foldM_nodup rs n) (k := p.1) (v := p.2) hp
  obtain ⟨r, hr, x, hx, e⟩ := fold_written h1
  obtain ⟨i, hi⟩ := List.getElem?_of_mem hr
  have h2 := (logErr_ok he hi).1
  simp only [txB, Bool.and_eq_true, List.all_eq_true] at h2
  have h3 := h2.2 x hx
  simp only [wrB, keyB, Bool.and_eq_true, decide_eq_true_eq] at h3
  rw [← e]; exact h3.1.1.2
section
open Go.Maps
abbrev SM := OwnM Value.string Value.string
theorem zstr (w : World) : (zeroValue 9).run Tryz.prog w = .ok (.string ⟨#[]⟩) w := by kernel_rfl
theorem values_err (A : Option Addr) (len cap : Nat) (rs : List RTx) (i : Int) (w : World) (hw : TxsAt w w.heap.size A len rs) (hl : len ≤ 4398046511104) (he : logErr rs 1 ≠ 0) :
    Calls Tryz.prog 133 #[.slice A len cap, .int .i64 i] w fun e w' => e = .returned (.tuple #[.map none, .int .i64 (logErr rs 1)]) ∧ Below w.heap.size w w' := by
  have hne : (logErr rs 1 != 0) = true := by simpa using he
  go_enter Tryz.func133, Tryz.ntmps133
  go_wp2_with fail
  refine (foldcheck_any A len cap rs _ hw hl).mono ?_
  rintro e w1 ⟨rfl, hb1⟩
  go_wp2_with fail
  go_ret2
  exact ⟨rfl, hb1⟩
theorem values_arg (A : Option Addr) (len cap : Nat) (rs : List RTx) (i : Int) (w : World) (hw : TxsAt w w.heap.size A len rs) (hl : len ≤ 4398046511104) (he : logErr rs 1 = 0) (ha : i < 0 ∨ (len : Int) < i) :
    Calls Tryz.prog 133 #[.slice A len cap, .int .i64 i] w fun e w' => e = .returned (.tuple #[.map none, .int .i64 1]) ∧ Below w.heap.size w w' := by
  have He := Lib.hid he
  clear he
  by_cases h1 : i < 0 <;> by_cases h3 : (len : Int) < i
  all_goals first
    | (exfalso; omega)
    | (go_enter Tryz.func133, Tryz.ntmps133
       go_wp2_with fail
       refine (foldcheck_any A len cap rs _ hw hl).mono ?_
       rintro e w1 ⟨rfl, hb1⟩
       rw [He.out]
       go_wp2_with fail
       go_ret2
       exact ⟨rfl, hb1⟩)
set_option maxHeartbeats 2000000 in
set_option maxRecDepth 8000 in
theorem values_good (A : Option Addr) (len cap : Nat) (rs : List RTx) (n : Nat) (w : World) (hw : TxsAt w w.heap.size A len rs) (hl : len ≤ 4398046511104) (hc : len ≤ cap) (he : logErr rs 1 = 0) (hn : n ≤ len) :
    Calls Tryz.prog 133 #[.slice A len cap, .int .i64 n] w fun e w' => ∃ b, e = .returned (.tuple #[.map (some b), .int .i64 0]) ∧ w.heap.size ≤ b ∧ SM w' b (foldM rs n) ∧ Below w.heap.size w w' := by
  have He := Lib.hid he
  clear he
  have hmm := @run_makeMap Tryz.prog
  have hd2 : decide (len < n) = false := by rw [decide_eq_false_iff_not]; omega
  go_enter Tryz.func133, Tryz.ntmps133
  go_wp2_with fail
  refine (foldcheck_any A len cap rs _ hw hl).mono ?_
  rintro e w1 ⟨rfl, hb1⟩
  rw [He.out]
  have hs1 := hb1.size
  have Hb1 := Lib.hid hb1
  clear hb1
  go_wp2_with fail
  have hk0 : SM (w1.alloc (.map #[] 0)) w1.heap.size (foldM rs 0) := OwnM.made _ _ _
  go_loopw [30] (fun v wr => ∃ t : Nat, t ≤ n ∧ v = .int .i64 t ∧ SM wr w1.heap.size (foldM rs t) ∧ Below w1.heap.size w1 wr) (fun v _ => n - (RowKit.intOf v).toNat)
  case atStart => exact ⟨0, by omega, rfl, hk0, (Below.refl _ _).alloc (Nat.le_refl _) _⟩
  case round =>
    obtain ⟨t, ht, rfl, hm, hb⟩ := hrel
    have hz := hb.size
    have hlt0 := hm.lt
    have hbw : Below w.heap.size w wr := Hb1.out.trans (hb.mono hs1)
    have hr := hw.below hbw
    have Hm := Lib.hid hm
    have Hb := Lib.hid hb
    have Hbw := Lib.hid hbw
    clear hm hb hbw
    by_cases hlt : t < n
    · obtain ⟨bb, off, r, rfl, hbl2, hx, x0, x1, hws, hrl⟩ := hr.cell2 (show t < len by omega)
      have Hx := Lib.hid hx
      clear hx hr hws
      go_wp2_with fail
      go_loopw [37] (fun q wi => ∃ qn : Nat, qn ≤ r.len ∧ q = .int .i64 qn ∧ SM wi w1.heap.size (playM (foldM rs t) (r.ws.take qn)) ∧ Below w1.heap.size w1 wi) (fun q _ => r.len - (RowKit.intOf q).toNat)
      case atStart => exact ⟨0, by omega, rfl, Hm.out.alloc _, Hb.out.alloc (by omega) _⟩
      case round =>
        obtain ⟨qn, hq, rfl, hmi, hbi⟩ := hrel
        have hbiw : Below w.heap.size w wr := Hb1.out.trans (hbi.mono hs1)
        have hri : WsAt wr w.heap.size r.A r.len r.ws := ((hw.below hbiw).2 r (List.mem_of_getElem? Hx.out)).1
        have hzi := hbi.size
        have hlti := hmi.lt
        have Hmi := Lib.hid hmi
        have Hbi := Lib.hid hbi
        clear hmi hbi hbiw
        by_cases hq2 : qn < r.len
        · obtain ⟨b2, off2, x, hA2, hbl3, hx2, y0, y1, y2⟩ := WsAt.cell3 hri hq2
          have Hx2 := Lib.hid hx2
          clear hx2 hri
          rw [hA2]
          have hbox : ∀ {w' : World}, World.grownBy (wr.alloc (.cells #[.string x.key, .string x.val, .bool x.drop] 87)) w' (some w1.heap.size) → Below w1.heap.size w1 w' := fun hg' =>
            (Hbi.out.alloc (by omega) _).grown hg' (by simp; omega) (fun q hq => by injection hq; omega)
          cases hd : x.drop
          · have Hd := Lib.hid hd
            rw [hd] at y2
            rw [hd] at hbox
            clear hd
            go_wp2_with (at_mapUpdate; refine wpList_update_M (κ := Value.string) (ν := Value.string) (b := w1.heap.size) (m := playM (foldM rs t) (r.ws.take qn)) rfl _ _ _ rfl (Hmi.out.alloc _) kstr Tryz.underlying170 x.key x.val rfl rfl rfl ?_; intro w' hown' hg')
            exact ⟨⟨qn + 1, by omega, by go_num, by rw [playM_snoc Hx2.out]; simp only [stepM, Hd.out]; exact hown', hbox hg'⟩, by simp [RowKit.intOf]; omega⟩
          · have Hd := Lib.hid hd
            rw [hd] at y2
            rw [hd] at hbox
            clear hd
            go_wp2_with (at_delete; refine wpList_delete_M (t := 170) (κ := Value.string) (ν := Value.string) (b := w1.heap.size) (m := playM (foldM rs t) (r.ws.take qn)) rfl _ _ _ rfl (Hmi.out.alloc _) kstr Tryz.underlying170 x.key rfl rfl ?_; intro w' hown' hg')
            exact ⟨⟨qn + 1, by omega, by go_num, by rw [playM_snoc Hx2.out]; simp only [stepM, Hd.out]; exact hown', hbox hg'⟩, by simp [RowKit.intOf]; omega⟩
        · have hqr : qn = r.len := by omega
          have hfull : r.ws.take qn = r.ws := List.take_of_length_le (by rw [hri.len]; omega)
          have Hfull := Lib.hid hfull
          clear hfull hri
          go_wp2_with fail
          refine ⟨⟨t + 1, by omega, by go_num, ?_, Hbi.out⟩, by simp [RowKit.intOf]; omega⟩
          have h1 := Hmi.out
          rw [Hfull.out] at h1
          rw [foldM_succ Hx.out]
          exact h1
    · obtain rfl : t = n := by omega
      clear hr
      go_wp2_with fail
      go_ret2
      exact ⟨w1.heap.size, rfl, hs1, Hm.out, Hbw.out⟩
theorem values_any (A : Option Addr) (len cap : Nat) (rs : List RTx) (i : Int) (w : World) (hw : TxsAt w w.heap.size A len rs) (hl : len ≤ 4398046511104) (hc : len ≤ cap) :
    Calls Tryz.prog 133 #[.slice A len cap, .int .i64 i] w fun e w' => ∃ v, e = .returned (.tuple #[v, .int .i64 (scanErr rs i)]) ∧ (scanErr rs i = 0 → ∃ b, v = .map (some b) ∧ w.heap.size ≤ b ∧ SM w' b (foldM rs i.toNat)) ∧ (scanErr rs i ≠ 0 → v = .map none) ∧ Below w.heap.size w w' := by
  have hlen := hw.1.len
  by_cases he : logErr rs 1 = 0
  · by_cases ha : i < 0 ∨ (len : Int) < i
    · have h1 : scanErr rs i = 1 := by unfold scanErr; rw [if_neg (by simpa using he), if_neg (by simp only [argB, Bool.and_eq_true, decide_eq_true_eq]; omega)]
      rw [h1]
      refine (values_arg A len cap rs i w hw hl he ha).mono ?_
      rintro e w' ⟨rfl, hb⟩
      exact ⟨_, rfl, (fun h => by cases h), fun _ => rfl, hb⟩
    · have h1 : scanErr rs i = 0 := by unfold scanErr; rw [if_neg (by simpa using he), if_pos (by simp only [argB, Bool.and_eq_true, decide_eq_true_eq]; omega)]
      rw [h1]
      obtain ⟨n, rfl⟩ : ∃ n : Nat, i = n := ⟨i.toNat, by omega⟩
      refine (values_good A len cap rs n w hw hl hc he (by omega)).mono ?_
      rintro e w' ⟨b, rfl, h2, h3, hb⟩
      exact ⟨_, rfl, fun _ => ⟨b, rfl, h2, by simpa using h3⟩, fun h => absurd rfl h, hb⟩
  · have h1 : scanErr rs i = logErr rs 1 := by unfold scanErr; rw [if_pos he]
    rw [h1]
    refine (values_err A len cap rs i w hw hl he).mono ?_
    rintro e w' ⟨rfl, hb⟩
    exact ⟨_, rfl, fun h => absurd h he, fun _ => rfl, hb⟩
/-! ### scans -/
def Scell (k : ByteArray) : List Value := [.string k]
theorem len_s (xs : List ByteArray) : ∀ x ∈ xs, (Scell x).length = 1 := fun _ _ => rfl
theorem flat_s (xs : List ByteArray) : xs.flatMap Scell = xs.map Value.string := by
  induction xs with
  | nil => rfl
  | cons x r ih => rw [List.flatMap_cons, ih]; rfl
theorem info_ent : (Tryz.prog.info? 116).map (fun i => (i.zero, i.size, i.bytes)) = some (some (.agg #[.string ⟨#[]⟩, .string ⟨#[]⟩]), 2, 32) := by kernel_rfl
def EntsOwn (w : World) (base : Nat) (v : Value) (xs : List Ent) : Prop := w.ownsRow base 116 2 v xs.length (xs.flatMap Ent.cells)
theorem EntsOwn.nil (w : World) (base : Nat) : EntsOwn w base (.slice none 0 0) [] := ⟨rfl, Or.inl ⟨rfl, rfl⟩⟩
def pickE (m : KV) (key fin : ByteArray) (ks : List ByteArray) : List Ent := (ks.filter (inB key fin)).map fun k => ⟨k, (mget m k).getD ⟨#[]⟩⟩
theorem pick_all (m : KV) (key fin : ByteArray) : pickE m key fin (sortedK m) = (entsOf m).filter (fun e => inB key fin e.key) := by
  unfold pickE entsOf; rw [List.filter_map]; rfl
theorem pick_snoc {m : KV} {key fin : ByteArray} {ks : List ByteArray} {j : Nat} {k : ByteArray} (h : ks[j]? = some k) :
    pickE m key fin (ks.take (j + 1)) = pickE m key fin (ks.take j) ++ if inB key fin k = true then [⟨k, (mget m k).getD ⟨#[]⟩⟩] else [] := by
  unfold pickE; rw [List.take_add_one, h]; simp only [Option.toList_some, List.filter_append, List.map_append]
  congr 1
  by_cases hk : inB key fin k = true
  · rw [if_pos hk]; simp [hk]
  · rw [if_neg hk]; simp [hk]
theorem pick_len (m : KV) (key fin : ByteArray) (ks : List ByteArray) : (pickE m key fin ks).length ≤ ks.length := by
  unfold pickE; rw [List.length_map]; exact List.length_filter_le _ _
theorem in_split (key fin k : ByteArray) :
    (inB key fin k = true ∧ Op.bytesLess k.toList key.toList = false ∧ ((fin.toList = [] ∧ fin.toList.isEmpty = true) ∨ (¬ fin.toList = [] ∧ fin.toList.isEmpty = false ∧ Op.bytesLess k.toList fin.toList = true))) ∨
    (inB key fin k = false ∧ (Op.bytesLess k.toList key.toList = true ∨ (Op.bytesLess k.toList key.toList = false ∧ ¬ fin.toList = [] ∧ fin.toList.isEmpty = false ∧ Op.bytesLess k.toList fin.toList = false))) := by
  rw [less_eq, less_eq]
  have h := toList_nil fin
  unfold inB
  cases h1 : ltB k key
  · by_cases h2 : fin.size = 0
    · left; simp [h2, h.2 h2]
    · have h3 : ¬ fin.toList = [] := fun e => h2 (h.1 e)
      have h4 : fin.toList.isEmpty = false := by rw [← Bool.not_eq_true, List.isEmpty_iff]; exact h3
      cases h5 : ltB k fin
      · right; simp [h2, h3, h4]
      · left; simp [h3, h4]
  · right; simp
theorem EntsOwn.more {w : World} {base base' : Nat} {v : Value} {xs : List Ent} (h : EntsOwn w base v xs) (hb : base' ≤ base) : EntsOwn w base' v xs := ownsRow_base_a h hb
set_option maxHeartbeats 2000000 in
set_option maxRecDepth 8000 in
theorem fscan_good (A : Option Addr) (len cap : Nat) (rs : List RTx) (i : Int) (key fin : ByteArray) (w : World) (hw : TxsAt w w.heap.size A len rs) (hl : len ≤ 4398046511104) (hc : len ≤ cap) (hs : scanErr rs i = 0) :
    Calls Tryz.prog 44 #[.slice A len cap, .int .i64 i, .string key, .string fin] w fun e w' => ∃ v, e = .returned (.tuple #[v, .int .i64 0]) ∧ EntsOwn w' w.heap.size v ((foldE rs i.toNat).filter fun e => inB key fin e.key) ∧ Below w.heap.size w w' := by
  have hv := values_any A len cap rs i w hw hl hc
  rw [hs] at hv
  have hz3 := scanErr_zero hs
  have hlen := hw.1.len
  obtain ⟨M, hM⟩ : ∃ M, M = foldM rs i.toNat := ⟨_, rfl⟩
  have hMl : M.length ≤ 2097152 := by rw [hM]; exact len_foldM hz3.1 (by omega)
  have hMk : ∀ p ∈ M, p.1.size ≤ maxLen := fun p hp => by have := key_foldM hz3.1 (n := i.toNat) p (hM ▸ hp); unfold maxLen; omega
  have hall : (foldE rs i.toNat).filter (fun e => inB key fin e.key) = pickE M key fin (sortedK M) := by rw [pick_all, hM, ents_fold]
  rw [hall]
  rw [← hM] at hv
  have hKl : (sortedK M).length = M.length := len_sortedK M
  obtain ⟨K, hK⟩ : ∃ K, K = sortedK M := ⟨_, rfl⟩
  rw [← hK] at hKl ⊢
  have hKl2 : K.length ≤ 2097152 := by omega
  have HKl := Lib.hid hKl
  have HK := Lib.hid hK
  have HMk := Lib.hid hMk
  have Hz := Lib.hid hz3
  obtain ⟨i0, hi, hz0, hz1, hz2⟩ := info_parts info_ent
  clear hs hlen hM hMk hall hKl hK hz3
  go_enter Tryz.func44, Tryz.ntmps44
  go_wp2_with fail
  refine hv.mono ?_
  rintro e w1 ⟨v, rfl, hg, -, hb1⟩
  obtain ⟨b, rfl, hbb, hm⟩ := hg (by trivial)
  have Hb1 := Lib.hid hb1
  have hs1 := hb1.size
  have hbl := hm.lt
  clear hb1 hv hg
  go_wp2_with fail
  refine (keysS_any (some b) w1).mono ?_
  rintro e w2 ⟨rfl, rfl⟩
  go_wp2_with fail
  refine (sortedS_any b M w1 hm (by omega) HMk.out).mono ?_
  rintro e w2 ⟨v, rfl, hown, hb2⟩
  have hown2 : w2.ownsRow w1.heap.size 9 1 v K.length (K.flatMap Scell) := by rw [flat_s, HKl.out, HK.out]; exact hown
  obtain ⟨Ak, capk, rfl, hrow, -, hcapk⟩ := rowAt_own (len_s _) hown2
  have hm2 := hm.below hb2 hbl
  have Hb2 := Lib.hid (Hb1.out.trans (hb2.mono hs1))
  have hs2 := hb2.size
  clear hb2 hown hown2 hm
  go_wp2_with fail
  go_loopw [12, 28] (fun v n wr => ∃ j : Nat, j ≤ K.length ∧ n = .int .i64 j ∧ EntsOwn wr w2.heap.size v (pickE M key fin (K.take j)) ∧ Below w2.heap.size w2 wr) (fun _ n _ => K.length - (RowKit.intOf n).toNat)
  case atStart => exact ⟨0, by omega, rfl, EntsOwn.nil _ _, Below.refl _ _⟩
  case round =>
    obtain ⟨j, hj, rfl, how, hb⟩ := hrel
    have hr := hrow.below hb
    have hmr := hm2.below hb (by omega)
    have hsr := hb.size
    have Hb := Lib.hid hb
    have How := Lib.hid how
    clear hb how
    by_cases hlt : j < K.length
    · obtain ⟨bk, offk, k, rfl, hblk, hx, hxc⟩ := hr.at_ hlt
      have x0 := hxc 0 _ rfl
      simp only [Nat.mul_one, Nat.add_zero] at x0
      have Hx := Lib.hid hx
      clear hx hxc hr
      have hgrow : ∀ {w' : World} {u : Value}, EntsOwn wr w2.heap.size u (pickE M key fin (K.take j)) → True := fun _ => trivial
      rcases in_split key fin k with ⟨hin, h1, ⟨h2, h3⟩ | ⟨h2, h3, h4⟩⟩ | ⟨hin, h1 | ⟨h1, h2, h3, h4⟩⟩
      · have Hin := Lib.hid hin
        clear hin hgrow
        have hmd : SM (wr.drew) b M := hmr
        have How2 : wr.ownsRow w2.heap.size 116 2 _ (pickE M key fin (K.take j)).length _ := How.out
        have hple := pick_len M key fin (K.take j)
        have hpl2 : (K.take j).length ≤ j := List.length_take_le _ _
        go_wp2_with (first | (at_lookup; refine wpList_lookup_M (κ := Value.string) (ν := Value.string) (b := b) (m := M) rfl _ _ rfl hmr kstr Tryz.underlying170 zstr k rfl rfl ?_) | (at_builtin; refine wpList_append_own _ rfl _ _ 26 rfl w2.heap.size 116 i0 _ 2 32 Tryz.underlying26 hi hz0 hz1 hz2 rfl (by decide) _ _ _ rfl (How2.alloc _) ⟨wr.heap.size, 0, none⟩ 1 1 (Ent.cells ⟨k, (mget M k).getD ⟨#[]⟩⟩) rfl rfl (cells_new _ _ _) (one_ent _) (by simp only [maxLen]; omega) (by omega) (by simp; omega) ?_; intro v' w' hown' hg' hn'))
        refine ⟨⟨j + 1, by omega, by go_num, ?_, Hb.out.trans (below_grown_new How2 hg' (by omega))⟩, by simp [RowKit.intOf]; omega⟩
        rw [pick_snoc Hx.out, if_pos Hin.out]
        unfold EntsOwn
        rw [List.length_append, List.flatMap_append]
        simpa using hown'
      · have Hin := Lib.hid hin
        clear hin hgrow
        have hmd : SM (wr.drew) b M := hmr
        have How2 : wr.ownsRow w2.heap.size 116 2 _ (pickE M key fin (K.take j)).length _ := How.out
        have hple := pick_len M key fin (K.take j)
        have hpl2 : (K.take j).length ≤ j := List.length_take_le _ _
        go_wp2_with (first | (at_lookup; refine wpList_lookup_M (κ := Value.string) (ν := Value.string) (b := b) (m := M) rfl _ _ rfl hmr kstr Tryz.underlying170 zstr k rfl rfl ?_) | (at_builtin; refine wpList_append_own _ rfl _ _ 26 rfl w2.heap.size 116 i0 _ 2 32 Tryz.underlying26 hi hz0 hz1 hz2 rfl (by decide) _ _ _ rfl (How2.alloc _) ⟨wr.heap.size, 0, none⟩ 1 1 (Ent.cells ⟨k, (mget M k).getD ⟨#[]⟩⟩) rfl rfl (cells_new _ _ _) (one_ent _) (by simp only [maxLen]; omega) (by omega) (by simp; omega) ?_; intro v' w' hown' hg' hn'))
        refine ⟨⟨j + 1, by omega, by go_num, ?_, Hb.out.trans (below_grown_new How2 hg' (by omega))⟩, by simp [RowKit.intOf]; omega⟩
        rw [pick_snoc Hx.out, if_pos Hin.out]
        unfold EntsOwn
        rw [List.length_append, List.flatMap_append]
        simpa using hown'
      · have Hin := Lib.hid hin
        clear hin hgrow
        go_wp2_with fail
        exact ⟨⟨j + 1, by omega, by go_num, by rw [pick_snoc Hx.out, if_neg (by rw [Hin.out]; simp), List.append_nil]; exact How.out, Hb.out⟩, by simp [RowKit.intOf]; omega⟩
      · have Hin := Lib.hid hin
        clear hin hgrow
        go_wp2_with fail
        exact ⟨⟨j + 1, by omega, by go_num, by rw [pick_snoc Hx.out, if_neg (by rw [Hin.out]; simp), List.append_nil]; exact How.out, Hb.out⟩, by simp [RowKit.intOf]; omega⟩
    · obtain rfl : j = K.length := by omega
      have hfin := How.out
      rw [List.take_of_length_le (Nat.le_refl _)] at hfin
      have Hfin := Lib.hid hfin
      clear hfin hr
      go_wp2_with fail
      go_ret2
      exact ⟨_, rfl, EntsOwn.more Hfin.out (by omega), Hb2.out.trans (Hb.out.mono (by omega))⟩
theorem fscan_err (A : Option Addr) (len cap : Nat) (rs : List RTx) (i : Int) (key fin : ByteArray) (w : World) (hw : TxsAt w w.heap.size A len rs) (hl : len ≤ 4398046511104) (hc : len ≤ cap) (hs : scanErr rs i ≠ 0) :
    Calls Tryz.prog 44 #[.slice A len cap, .int .i64 i, .string key, .string fin] w fun e w' => e = .returned (.tuple #[.slice none 0 0, .int .i64 (scanErr rs i)]) ∧ Below w.heap.size w w' := by
  have hv := values_any A len cap rs i w hw hl hc
  have hne : (scanErr rs i == 0) = false := by simpa using hs
  have hne2 : (scanErr rs i != 0) = true := by simpa using hs
  have Hv := Lib.hid hv
  clear hs hv
  go_enter Tryz.func44, Tryz.ntmps44
  go_wp2_with fail
  refine Hv.out.mono ?_
  rintro e w1 ⟨v, rfl, -, -, hb1⟩
  have Hb1 := Lib.hid hb1
  clear hb1
  go_wp2_with fail
  go_ret2
  exact ⟨rfl, Hb1.out⟩
def ScanPost (w : World) (rs : List RTx) (i : Int) (key fin : ByteArray) (e : Ending) (w' : World) : Prop := ∃ v, e = .returned (.tuple #[v, .int .i64 (scanErr rs i)]) ∧ EntsOwn w' w.heap.size v (scanL rs i key fin) ∧ Below w.heap.size w w'
theorem fscan_any (A : Option Addr) (len cap : Nat) (rs : List RTx) (i : Int) (key fin : ByteArray) (w : World) (hw : TxsAt w w.heap.size A len rs) (hl : len ≤ 4398046511104) (hc : len ≤ cap) :
    Calls Tryz.prog 44 #[.slice A len cap, .int .i64 i, .string key, .string fin] w (ScanPost w rs i key fin) := by
  by_cases hs : scanErr rs i = 0
  · refine (fscan_good A len cap rs i key fin w hw hl hc hs).mono ?_
    rintro e w' ⟨v, rfl, h1, h2⟩
    exact ⟨v, by rw [hs], by unfold scanL; rw [if_pos hs]; exact h1, h2⟩
  · refine (fscan_err A len cap rs i key fin w hw hl hc hs).mono ?_
    rintro e w' ⟨rfl, h2⟩
    exact ⟨_, rfl, by unfold scanL; rw [if_neg hs]; exact EntsOwn.nil _ _, h2⟩
theorem fstore_any (A : Option Addr) (len cap : Nat) (rs : List RTx) (i : Int) (w : World) (hw : TxsAt w w.heap.size A len rs) (hl : len ≤ 4398046511104) (hc : len ≤ cap) :
    Calls Tryz.prog 10 #[.slice A len cap, .int .i64 i] w (ScanPost w rs i ⟨#[]⟩ ⟨#[]⟩) := by
  have Hc := Lib.hid (fscan_any A len cap rs i ⟨#[]⟩ ⟨#[]⟩ w hw hl hc)
  go_enter Tryz.func10, Tryz.ntmps10
  go_wp2_with fail
  refine Hc.out.mono ?_
  rintro e w1 ⟨v, rfl, h1, hb1⟩
  have H1 := Lib.hid h1
  have Hb1 := Lib.hid hb1
  clear h1 hb1
  go_wp2_with fail
  go_ret2
  exact ⟨v, rfl, H1.out, Hb1.out⟩
end
end Go.Proofs.YtafghiekpgjniaaGreatDoor

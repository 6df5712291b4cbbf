/- XDw: out of XT3 XT4b XTwIb XIntC XConfb XTw XTwT XTwL XCore XSize XFold1 XFold2 XFold3 XFold4 XFold5 XFold6 XFp XFlp XFq XDp XIter XFr2 XFr3 XKey XFr4 XApp XSizeX XRng XAl XDt XDt2 XDt3 XDt4 XDt5 XDt6 XDt7 (pick.py). -/
import Derived.Test.YtcjmppjppmiggaaGreatDq
import Derived.Test.YtcjmppjppmiggaaGreatRk
import Derived.Test.YtcjmppjppmiggaaGreatOwnL
import Derived.Test.YtcjmppjppmiggaaGreatLay
import Derived.Test.YtcjmppjppmiggaaGreatExt
import Derived.Test.YtcjmppjppmiggaaGreatRows
import Derived.Deep.RegionLaw
import Derived.Deep.AppendLies
import Derived.Sort.OwnSortedInts
import Derived.Maps.RangeWalk
import Derived.Deep.QuietTactic
import Derived.Deep.RegionHeld3
import Derived.DeepKeys4
import Derived.Laws.AppendOwnNone
import Derived.BigQuiet
namespace Go.Proofs.YtcjmppjppmiggaaGreat
open Go.RowKit
set_option linter.unusedVariables false
set_option linter.unusedSimpArgs false

section
open Go.Maps
theorem ownsRow_below {w w' : World} {base : Nat} {e : TypeId} {size : Nat} {v : Value} {n : Nat} {xs : List Value} (h : w.ownsRow base e size v n xs) (hb : Below w.heap.size w w') : w'.ownsRow base e size v n xs := by
  obtain ⟨h1, h2⟩ := h
  refine ⟨h1, ?_⟩
  rcases h2 with h2 | ⟨g, cap, cur, hv, hg, hh, r⟩
  · exact Or.inl h2
  · exact Or.inr ⟨g, cap, cur, hv, hg, by rw [hb.block g (Array.getElem?_eq_some_iff.1 hh).1]; exact hh, r⟩

theorem cells_new (w : World) (cs : List Value) (e : TypeId) : ∀ (j : Nat) (u : Value), cs[j]? = some u → (w.alloc (.cells cs.toArray e)).cell? ((⟨w.heap.size, 0, none⟩ : Addr).add j) = some u := by
  intro j u hu
  rw [Addr.add_lit, Nat.zero_add, cell_of_row _ _ _ cs.toArray e (0, 0) (heap_alloc_new w _)]
  simpa using hu
end
def Icell (x : Int) : List Value := [.int .i64 x]
theorem one_int (x : Int) : ∀ (u : Value), u ∈ Icell x → u.oneCell' = true := by
  intro u hu; simp only [Icell, List.mem_cons, List.not_mem_nil, or_false] at hu; rw [hu]; rfl
theorem info_int : (Tryz.prog.info? 3).map (fun i => (i.zero, i.size, i.bytes)) = some (some (.int .i64 0), 1, 8) := by kernel_rfl
def RTx.cells (r : RTx) : List Value := [.int .i64 r.number, .slice r.A r.len r.cap]
def RTx.v (r : RTx) : Value := .agg #[.int .i64 r.number, .slice r.A r.len r.cap]
section
open Go.Maps
theorem kstr : Keying Tryz.prog 9 Value.string := keying_string Tryz.underlying9
theorem types_succ : ∃ m, Tryz.prog.types.size = m + 1 := Nat.exists_eq_succ_of_ne_zero (Nat.pos_iff_ne_zero.1 (of_decide_eq_true (by kernel_rfl)))
theorem key_pair (a b : I64) : ∃ l, keyOf Tryz.prog 91 (.agg #[.int .i64 a.1, .int .i64 b.1]) = some l := by
  obtain ⟨m, hm⟩ := types_succ
  have h1 : Tryz.prog.keyType 91 = true := by kernel_rfl
  have hc : Tryz.prog.cellsOf 91 = 2 := by kernel_rfl
  have hc2 : Tryz.prog.cellsOf 3 = 1 := by kernel_rfl
  have h2 : (Value.agg #[.int .i64 a.1, .int .i64 b.1]).formed Tryz.prog 91 = true := by simp [Value.formed, Tryz.underlying91, hc]
  unfold keyOf
  rw [Tryz.underlying91]
  simp only [h1, h2, Bool.and_self, if_true, hm]
  simp [Value.cells, Program.keyLits, Tryz.underlying91, Tryz.underlying3, hc, hc2, a.2, b.2, List.range, List.range.loop]
theorem law_pair : Go.Maps.Keyed Tryz.prog 91 := Keyed.of_law (deep_law_laid laidOut (m := 2) (by omega) (of_decide_eq_true (by kernel_rfl)) (by kernel_rfl) (by rw [Tryz.underlying91]))
def pairK (p : I64 × I64) : Value := .agg #[.int .i64 p.1.1, .int .i64 p.2.1]
theorem kpair : Keying Tryz.prog 91 pairK :=
  keying_keyed law_pair (fun a => key_pair a.1 a.2) (fun a b h => by
    simp only [pairK, Value.agg.injEq] at h
    have := congrArg Array.toList h
    simp at this
    exact Prod.ext (Subtype.ext this.1) (Subtype.ext this.2))
theorem kint : Keying Tryz.prog 3 (Value.int .i64) := keying_int Tryz.underlying3
theorem zint (w : World) : (zeroValue 3).run Tryz.prog w = .ok (.int .i64 0) w := by kernel_rfl
end
theorem grownBy_refl (w : World) (row : Option Nat) : w.grownBy w row := ⟨rfl, rfl, rfl, Nat.le_refl _, fun _ _ _ => rfl⟩
section
open Go.MapKept Go.ChangeMaps
set_option linter.unusedSectionVars false
variable {K V : Type} [DecidableEq K] {κ : K → Value} {ν : V → Value} {P : Program} {kt vt t : TypeId} {w w' : World} {b r : Nat} {m todo : List (K × V)}
theorem RngM.own (h : RngM κ ν w b r m todo) : OwnM κ ν w b m := by
  obtain ⟨es, clock, _, _, _, h1, h2, h3, _⟩ := h; exact ⟨es, clock, h1, h2, h3⟩
theorem RngM.ne (h : RngM κ ν w b r m todo) : r ≠ b := by
  obtain ⟨es, clock, since, seen, c0, hb, _, _, hr, _⟩ := h
  intro e; rw [e, hb] at hr; cases hr
theorem RngM.of_block (h : RngM κ ν w b r m todo) (hb : w'.heap[b]? = w.heap[b]?) (hr : w'.heap[r]? = w.heap[r]?) : RngM κ ν w' b r m todo := by
  obtain ⟨es, clock, since, seen, c0, h1, h2, h3, h4, h5⟩ := h
  exact ⟨es, clock, since, seen, c0, hb.trans h1, h2, h3, hr.trans h4, h5⟩
theorem RngM.kept {row : Option Nat} (h : RngM κ ν w b r m todo) (hg : w.grownBy w' row) (hb : some b ≠ row) (hr : some r ≠ row) : RngM κ ν w' b r m todo :=
  h.of_block (hg.block b h.own.lt hb) (hg.block r h.lt hr)
theorem RngM.alloc (h : RngM κ ν w b r m todo) (o : Obj) : RngM κ ν (w.alloc o) b r m todo := h.of_block (Below.heap_alloc w o b h.own.lt) (Below.heap_alloc w o r h.lt)
theorem leftOf_list (es : Array MapEntry) (seen : Array Nat) : (leftOf es seen).toList = es.toList.filter fun e => !seen.contains e.born := by
  unfold leftOf; rw [← Array.toList_filter]
theorem RngM.left_eq (h : RngM κ ν w b r m todo) : w.rangeLeft b r = todo.length := by
  obtain ⟨es, clock, since, seen, c0, hb, _, _, hr, _, ht, _⟩ := h
  simp only [World.rangeLeft, hb, hr]
  rw [← Array.length_toList, leftOf_list]
  simpa using congrArg List.length ht
theorem rest_perm {todo : List (K × V)} {k : K} {v : V} (hn : (todo.map (·.1)).Nodup) (h : (k, v) ∈ todo) : todo.Perm ((k, v) :: todo.filter fun p => decide (p.1 ≠ k)) := by
  induction todo with
  | nil => cases h
  | cons x l ih =>
    simp only [List.map_cons, List.nodup_cons] at hn
    rcases List.mem_cons.1 h with h | h
    · subst h
      rw [List.filter_cons_of_neg (by simp), List.filter_eq_self.2]
      intro p hp
      simp only [decide_eq_true_eq]
      rintro rfl
      exact hn.1 (List.mem_map.2 ⟨p, hp, rfl⟩)
    · have hx : x.1 ≠ k := by rintro rfl; exact hn.1 (List.mem_map.2 ⟨_, h, rfl⟩)
      rw [List.filter_cons_of_pos (by simpa using hx)]
      exact ((ih hn.2 h).cons x).trans (List.Perm.swap _ _ _)
theorem RngM.sub (h : RngM κ ν w b r m todo) (hi : ∀ a b, κ a = κ b → a = b) : (todo.map (·.1)).Nodup := by
  obtain ⟨es, clock, since, seen, c0, hb, hs, he, hr, hold, ht, _⟩ := h
  have h1 := hs.2.2
  have h2 : (es.toList.filter fun e => !seen.contains e.born).map (·.key) = todo.map (fun p => κ p.1) := by
    have := congrArg (List.map (·.1)) ht
    simpa [Function.comp_def] using this
  have h3 : ((es.toList.filter fun e => !seen.contains e.born).map (·.key)).Nodup := h1.sublist (List.filter_sublist.map _)
  rw [h2, show (fun p : K × V => κ p.1) = κ ∘ (fun p => p.1) from rfl, ← List.map_map] at h3
  exact List.Pairwise.of_map κ (fun a b hab e => hab (by rw [e])) h3
theorem RngM.next (h : RngM κ ν w b r m todo) (hi : ∀ a b, κ a = κ b → a = b) (ty : TypeId) :
    (todo = [] ∧ (Instr.next (.pointer (some ⟨r, 0, none⟩)) false ty).run P w = .ok (.tuple #[.bool false]) w) ∨
    ∃ k v w', (k, v) ∈ todo ∧ (Instr.next (.pointer (some ⟨r, 0, none⟩)) false ty).run P w = .ok (.tuple #[.bool true, κ k, ν v]) w' ∧
      RngM κ ν w' b r m (todo.filter fun p => decide (p.1 ≠ k)) ∧ w.grownBy w' (some r) ∧ w'.heap.size = w.heap.size ∧ (Instr.entry (.pointer (some ⟨r, 0, none⟩))).run P w' = .ok (.tuple #[κ k, ν v]) w' := by
  classical
  have hne := h.ne
  obtain ⟨es, clock, since, seen, c0, hb, hs, he, hr, hold, ht, hsc, hsk⟩ := h
  rcases run_next_at (P := P) w ty r b since c0 seen es clock hr hb hold hsc with ⟨h0, hrun⟩ | ⟨e, hel, w1, hal, hrun⟩
  · refine Or.inl ⟨?_, hrun⟩
    rw [← Array.length_toList, leftOf_list] at h0
    have := congrArg List.length ht
    simp only [List.length_map] at this
    exact List.eq_nil_of_length_eq_zero (by omega)
  · obtain ⟨hem, hes⟩ := mem_left hel
    rw [leftOf_list] at hel
    have hin : (e.key, e.val) ∈ todo.map (fun p => (κ p.1, ν p.2)) := by rw [← ht]; exact List.mem_map.2 ⟨e, hel, rfl⟩
    obtain ⟨p, hp, hpe⟩ := List.mem_map.1 hin
    simp only [Prod.mk.injEq] at hpe
    have hr1 : w1.heap[r]? = some (.mapIter (some b) since seen c0) := by rcases hal with rfl | rfl <;> exact hr
    have hb1 : w1.heap[b]? = some (.map es clock) := by rcases hal with rfl | rfl <;> exact hb
    have hset := heap_set (o' := .mapIter (some b) since (seen.push e.born) clock) hr1
    have hb' : (setBlock w1 r (.mapIter (some b) since (seen.push e.born) clock)).heap[b]? = some (.map es clock) := (hset.2 b (fun e1 => hne e1.symm)).trans hb1
    refine Or.inr ⟨p.1, p.2, _, hp, by rw [hpe.1, hpe.2]; exact hrun, ⟨es, clock, since, seen.push e.born, clock, hb', hs, he, hset.1, hold, ?_, hsk, hsk⟩, ?_, ?_, ?_⟩
    · -- those that are still to come
      have hkey : ∀ x ∈ es.toList, (x.born == e.born) = decide (x.key = κ p.1) := fun x hx => by
        by_cases hbe : x.born = e.born
        · obtain rfl := born_inj hs.2.1 hx hem hbe
          rw [beq_self_eq_true, hpe.1]; simp
        · have hk : ¬ x.key = κ p.1 := fun hk => by
            rw [hpe.1] at hk
            have hst := (stamped_iff es clock).1 hs
            exact hbe (congrArg MapEntry.born (entry_eq_of_key hst.2.2 hx hem hk))
          rw [decide_eq_false hk]; simp [hbe]
      have e1 : (es.toList.filter fun x => !(seen.push e.born).contains x.born) = (es.toList.filter fun x => !seen.contains x.born).filter fun x => decide (x.key ≠ κ p.1) := by
        rw [List.filter_filter]
        refine List.filter_congr fun x hx => ?_
        rw [contains_push, hkey x hx]
        cases seen.contains x.born <;> simp
      rw [e1]
      have e2 : ∀ (l : List MapEntry) (T : List (K × V)), l.map (fun e => (e.key, e.val)) = T.map (fun p => (κ p.1, ν p.2)) → (l.filter fun x => decide (x.key ≠ κ p.1)).map (fun e => (e.key, e.val)) = (T.filter fun q => decide (q.1 ≠ p.1)).map (fun p => (κ p.1, ν p.2)) := by
        intro l
        induction l with
        | nil => intro T h; cases T with
          | nil => rfl
          | cons q T => simp at h
        | cons x l ih => intro T h; cases T with
          | nil => simp at h
          | cons q T =>
            simp only [List.map_cons, List.cons.injEq, Prod.mk.injEq] at h
            have hq : decide (x.key ≠ κ p.1) = decide (q.1 ≠ p.1) := by
              rw [h.1.1]
              by_cases hqp : q.1 = p.1
              · simp [hqp]
              · have : κ q.1 ≠ κ p.1 := fun e => hqp (hi _ _ e)
                simp [hqp, this]
            rw [List.filter_cons, List.filter_cons, hq]
            split
            · simp only [List.map_cons, ih T h.2, h.1.1, h.1.2]
            · exact ih T h.2
      exact e2 _ _ ht
    · rcases hal with rfl | rfl <;> exact ⟨rfl, rfl, rfl, by simp [setBlock], fun i _ hi => hset.2 i (fun e1 => hi (by rw [e1]))⟩
    · rcases hal with rfl | rfl <;> simp [setBlock]
    · rw [hpe.1, hpe.2]
      exact run_entry_at _ r b since seen es clock e hset.1 hb' hem ((stamped_iff es clock).1 hs).2.1
theorem filter_eraseIdx {α : Type} (p : α → Bool) : ∀ (l : List α) (j : Nat) (x : α), l[j]? = some x → p x = false → (l.eraseIdx j).filter p = l.filter p
  | [], _, _, h, _ => by simp at h
  | y :: l, 0, x, h, hp => by simp at h; subst h; simp [hp]
  | y :: l, j + 1, x, h, hp => by
    simp only [List.eraseIdx_cons_succ, List.filter_cons]
    rw [filter_eraseIdx p l j x (by simpa using h) hp]
theorem RngM.run_delete (h : RngM κ ν w b r m todo) (hK : Keying P kt κ) (ht : P.underlying t = some (.map kt vt)) (k : K) (hk : k ∉ todo.map (·.1)) (ts : Array TypeId) (hts : ts[0]? = some t) (ty : TypeId) :
    ∃ w', (Builtin.delete_ ts ty #[.map (some b), κ k]).run P w = .ok (.tuple #[]) w' ∧ RngM κ ν w' b r (mdel m k) todo ∧ w.grownBy w' (some b) := by
  have hne := h.ne
  have hnd : ((m.map fun p => (p.1, ν p.2)).map (·.1)).Nodup := by rw [List.map_map]; exact h.own.nodup
  obtain ⟨es, clock, since, seen, c0, hb, hs, he, hr, hold, htd, hsc, hsk⟩ := h
  have hf := hK.find w k es.toList (m.map fun p => (p.1, ν p.2)) (by rw [he]; simp [Function.comp_def]) hnd
  have hset : ∀ o : Obj, w.grownBy { w with heap := w.heap.setIfInBounds b o } (some b) := fun o =>
    ⟨rfl, rfl, rfl, by simp, fun i _ hne => (MapKept.heap_set hb).2 i (fun e => hne (by rw [e]))⟩
  have hr' : ∀ o : Obj, ({ w with heap := w.heap.setIfInBounds b o } : World).heap[r]? = some (.mapIter (some b) since seen c0) := fun o => ((MapKept.heap_set hb).2 r hne).trans hr
  unfold Builtin.delete_
  simp only [hts, List.getElem?_toArray, List.getElem?_cons_zero, List.getElem?_cons_succ, Sem.run_bind, run_underlying ht, Result.andThen_ok, MapKept.run_getObj_map hb, hK.check, hf]
  cases hq : mfind k (m.map fun p => (p.1, ν p.2)) 0 with
  | none =>
    obtain ⟨h1, h2, h3, h4⟩ := mfind_none m hq
    refine ⟨_, by simp only [Sem.run_bind, MapKept.run_setObj_map _ hb, Result.andThen_ok, Sem.run_pure], ⟨_, _, since, seen, c0, (MapKept.heap_set hb).1, hs, by rw [h3]; exact he, hr' _, hold, htd, hsc, hsk⟩, hset _⟩
  | some x =>
    obtain ⟨j, u⟩ := x
    obtain ⟨t', v', rfl, rfl, hlt, h2, h3, h4, h5⟩ := mfind_some m hq
    simp only [Nat.zero_add]
    have hlen : es.toList.length = m.length := by simpa using congrArg List.length he
    have hx : t' < es.size := by rw [← Array.length_toList, hlen]; exact hlt
    have hxe : es.toList[t']? = some es[t'] := by rw [Array.getElem?_toList]; exact Array.getElem?_eq_getElem hx
    have hkey : es[t'].key = κ k := by
      have h6 : (es.toList.map (fun e => (e.key, e.val)))[t']? = some (κ k, ν v') := by rw [he]; simp [h3]
      simp [hx] at h6
      exact h6.1
    have hseen : (!seen.contains es[t'].born) = false := by
      cases hc : (!seen.contains es[t'].born) with
      | false => rfl
      | true =>
        exfalso
        have hin : (es[t'].key, es[t'].val) ∈ todo.map (fun p => (κ p.1, ν p.2)) := by
          rw [← htd]
          exact List.mem_map.2 ⟨_, List.mem_filter.2 ⟨List.mem_of_getElem? hxe, hc⟩, rfl⟩
        obtain ⟨p, hp, hpe⟩ := List.mem_map.1 hin
        simp only [Prod.mk.injEq] at hpe
        exact hk (List.mem_map.2 ⟨p, hp, hK.inj _ _ (hpe.1.trans hkey)⟩)
    have htl : (es.eraseIdxIfInBounds t').toList = es.toList.eraseIdx t' := by
      simp only [Array.eraseIdxIfInBounds, hx, ↓reduceDIte, Array.toList_eraseIdx]
    refine ⟨_, by simp only [Sem.run_bind, MapKept.run_setObj_map _ hb, Result.andThen_ok, Sem.run_pure], ⟨_, _, since, seen, c0, (MapKept.heap_set hb).1, stamped_erase hs t', ?_, hr' _, fun x hx2 => hold x (by rw [htl] at hx2; exact (List.eraseIdx_sublist _ _).subset hx2), ?_, hsc, hsk⟩, hset _⟩
    · rw [h5, htl]
      have e2 : ∀ {α β : Type} (f : α → β) (l : List α) (i : Nat), (l.eraseIdx i).map f = (l.map f).eraseIdx i := by
        intro α β f l
        induction l with
        | nil => intro i; rfl
        | cons x r ih => intro i; cases i <;> simp [ih]
      rw [e2, he, e2]
    · rw [htl, filter_eraseIdx _ _ _ _ hxe hseen]; exact htd
end
section
open Go.MapKept Go.ChangeMaps
set_option linter.unusedSectionVars false
variable {K V : Type} [DecidableEq K] {κ : K → Value} {ν : V → Value} {w : World} {b r : Nat} {m todo : List (K × V)} {P : Program} {kt vt t : TypeId}
variable {ops : Array Oper} {rest : List Oper} {o : Oper} {a : Act} {Q : Exit → Act → World → Prop}
theorem wpList_range_M (hg : o.guard = none) (x : Operand) (hop : o.op = Op.range t x) (ht : P.underlying t = some (.map kt vt)) (hx : a.eval x = .map (some b)) (hown : OwnM κ ν w b m)
    (hK : ∀ w', RngM κ ν w' b w.heap.size m m → w.grownBy w' none → w'.heap.size = w.heap.size + 1 → wpList P ops Q rest (a.put o.dst (.pointer (some ⟨w.heap.size, 0, none⟩))) w') : wpList P ops Q (o :: rest) a w := by
  refine wpList_plain hg fun K' hK' => ?_
  obtain ⟨w', hrun, r1, r2, r3⟩ := hown.range ht
  unfold Oper.wp
  simp [execOp, hop, hx, hrun, Result.andThen]
  exact hK' _ _ (hK w' r1 r2 r3)
theorem wpList_next_M (hg : o.guard = none) (it : Operand) (hop : o.op = Op.next it false) (hit : a.eval it = .pointer (some ⟨r, 0, none⟩)) (hi : ∀ a b, κ a = κ b → a = b) (h : RngM κ ν w b r m todo)
    (hDone : todo = [] → wpList P ops Q rest (a.put o.dst (.tuple #[.bool false])) w)
    (hMore : ∀ (k : K) (v : V) (w' : World), (k, v) ∈ todo → RngM κ ν w' b r m (todo.filter fun p => decide (p.1 ≠ k)) → w.grownBy w' (some r) → w'.heap.size = w.heap.size →
      (Instr.entry (.pointer (some ⟨r, 0, none⟩))).run P w' = .ok (.tuple #[κ k, ν v]) w' → wpList P ops Q rest (a.put o.dst (.tuple #[.bool true, κ k, ν v])) w') : wpList P ops Q (o :: rest) a w := by
  refine wpList_plain hg fun K' hK' => ?_
  unfold Oper.wp
  rcases h.next (P := P) hi o.type with ⟨h0, hrun⟩ | ⟨k, v, w', hm, hrun, h1, h2, h3, h4⟩
  · simp [execOp, hop, hit, hrun, Result.andThen]
    exact hK' _ _ (hDone h0)
  · simp [execOp, hop, hit, hrun, Result.andThen]
    exact hK' _ _ (hMore k v w' hm h1 h2 h3 h4)
end
section
open Go.Maps
set_option linter.unusedSectionVars false
structure TB where
  g : Nat
  p : Nat
  q : Nat
  r : Nat
def TB.has (t : TB) (k : Nat) : Prop := k = t.g ∨ k = t.p ∨ k = t.q ∨ k = t.r
structure TabAt (w : World) (t : TB) (d : DT) : Prop where
  cell : w.heap[t.g]? = some (.cells #[.map (some t.p), .map (some t.q), .map (some t.r), .int .i64 d.top] 104 (0, 0))
  last : OwnM Value.string (Value.int .i64) w t.p d.last
  opn : OwnM (Value.int .i64) (Value.int .i64) w t.q d.opn
  wts : OwnM pairK Value.bool w t.r d.wts
  pq : t.p ≠ t.q
  pr : t.p ≠ t.r
  qr : t.q ≠ t.r
end
section
open Go.Maps
set_option linter.unusedSectionVars false
variable {w w' : World} {t : TB} {d : DT}
theorem ownM_ne {K V : Type} {κ : K → Value} {ν : V → Value} {b g : Nat} {m : List (K × V)} {cs : Array Value} {ty : TypeId} {fr : Nat × Nat} (h : OwnM κ ν w b m) (hg : w.heap[g]? = some (.cells cs ty fr)) : g ≠ b := by
  obtain ⟨es, clock, hb, -⟩ := h
  rintro rfl
  rw [hg] at hb; cases hb
theorem TabAt.gp (h : TabAt w t d) : t.g ≠ t.p := ownM_ne h.last h.cell
theorem TabAt.gq (h : TabAt w t d) : t.g ≠ t.q := ownM_ne h.opn h.cell
theorem TabAt.gr (h : TabAt w t d) : t.g ≠ t.r := ownM_ne h.wts h.cell
theorem TabAt.lt (h : TabAt w t d) : t.g < w.heap.size ∧ t.p < w.heap.size ∧ t.q < w.heap.size ∧ t.r < w.heap.size :=
  ⟨blk_lt h.cell, h.last.lt, h.opn.lt, h.wts.lt⟩
theorem TabAt.of_blocks (h : TabAt w t d) (hb : ∀ k, t.has k → w'.heap[k]? = w.heap[k]?) : TabAt w' t d :=
  ⟨(hb _ (Or.inl rfl)).trans h.cell, h.last.of_block (hb _ (Or.inr (Or.inl rfl))), h.opn.of_block (hb _ (Or.inr (Or.inr (Or.inl rfl)))), h.wts.of_block (hb _ (Or.inr (Or.inr (Or.inr rfl)))), h.pq, h.pr, h.qr⟩
theorem TabAt.has_lt (h : TabAt w t d) {k : Nat} (hk : t.has k) : k < w.heap.size := by
  obtain ⟨h1, h2, h3, h4⟩ := h.lt
  rcases hk with rfl | rfl | rfl | rfl <;> assumption
theorem TabAt.below (h : TabAt w t d) (hb : Below w.heap.size w w') : TabAt w' t d := h.of_blocks fun k hk => hb.block k (h.has_lt hk)
theorem TabAt.kept {X : Nat → Prop} (h : TabAt w t d) (hb : Kept w w' X) (hB : ∀ k, t.has k → ¬ X k) : TabAt w' t d := h.of_blocks fun k hk => hb.block k (h.has_lt hk) (hB k hk)
theorem TabAt.cells (h : TabAt w t d) : w.cell? ⟨t.g, 0, none⟩ = some (.map (some t.p)) ∧ w.cell? ⟨t.g, 1, none⟩ = some (.map (some t.q)) ∧ w.cell? ⟨t.g, 2, none⟩ = some (.map (some t.r)) ∧ w.cell? ⟨t.g, 3, none⟩ = some (.int .i64 d.top) := by
  have c0 := blk_cell h.cell 0
  have c1 := blk_cell h.cell 1
  have c2 := blk_cell h.cell 2
  have c3 := blk_cell h.cell 3
  simp only [List.getElem?_toArray, List.getElem?_cons_zero, List.getElem?_cons_succ] at c0 c1 c2 c3
  exact ⟨c0, c1, c2, c3⟩
end
section
open Go.Maps
set_option linter.unusedSectionVars false
theorem int_or (m : List (Int × Int)) (k : Int) : (((mget m k).map (Value.int .i64)).getD (.int .i64 0)) = .int .i64 ((mget m k).getD 0) := by cases mget m k <;> rfl
theorem last_or (m : List (ByteArray × Int)) (k : ByteArray) : (((mget m k).map (Value.int .i64)).getD (.int .i64 0)) = .int .i64 ((mget m k).getD 0) := by cases mget m k <;> rfl
theorem wait_or (m : List ((I64 × I64) × Bool)) (k : I64 × I64) : (((mget m k).map Value.bool).getD (.bool false)) = .bool ((mget m k).getD false) := by cases mget m k <;> rfl
end
section
open Go.Maps
set_option linter.unusedSectionVars false
set_option maxHeartbeats 2000000
theorem new_any (w : World) : Calls Tryz.prog 21 #[] w fun e w' => e = .returned (.pointer (some ⟨w.heap.size + 3, 0, none⟩)) ∧ TabAt w' ⟨w.heap.size + 3, w.heap.size, w.heap.size + 1, w.heap.size + 2⟩ ⟨[], [], [], 0⟩ ∧ Below w.heap.size w w' := by
  have hmm := @run_makeMap Tryz.prog
  go_enter Tryz.func21, Tryz.ntmps21
  go_wp2_with fail
  go_ret
  have h1 := OwnM.made w Value.string (Value.int .i64)
  have h2 := OwnM.made (w.alloc (.map #[] 0)) (Value.int .i64) (Value.int .i64)
  have h3 := OwnM.made ((w.alloc (.map #[] 0)).alloc (.map #[] 0)) pairK Value.bool
  simp only [World.size_alloc] at h2 h3
  refine ⟨rfl, ⟨by simpa [Nat.add_assoc] using blk_new (((w.alloc (.map #[] 0)).alloc (.map #[] 0)).alloc (.map #[] 0)) _, ((h1.alloc _).alloc _).alloc _, (h2.alloc _).alloc _, h3.alloc _, by simp, by simp, by simp⟩, bel_alloc (bel_alloc (bel_alloc (bel_alloc (Below.refl _ _) _) _) _) _⟩
theorem eqmap_some (b : Nat) (w : World) : (binOp .eql 100 (.map (some b)) (.map none)).run Tryz.prog w = .ok (.bool false) w := by kernel_rfl
theorem gone_any (t : TB) (d : DT) (w : World) (h : TabAt w t d) : Calls Tryz.prog 77 #[.pointer (some ⟨t.g, 0, none⟩)] w fun e w' => e = .returned (.bool false) ∧ w' = w := by
  obtain ⟨c0, -⟩ := h.cells
  have he := eqmap_some t.p
  go_enter Tryz.func77, Tryz.ntmps77
  go_wp2_with fail
  go_ret
  exact ⟨rfl, rfl⟩
theorem flat_i (l : List Int) : l.flatMap Icell = l.map (Value.int .i64) := by induction l with
  | nil => rfl
  | cons x r ih => simp [Icell, ih]
end
section
open Go.Maps Go.Sort
theorem sortRow_any (base : Nat) (v : Value) (xs : List Int) (w : World) (h : w.ownsRow base 3 1 v xs.length (xs.flatMap Icell)) (hl : xs.length < 4611686018427387904) :
    Calls Tryz.prog 80 #[v] w fun e w' => e = .returned (.tuple #[]) ∧ w'.ownsRow base 3 1 v xs.length ((sortI xs).flatMap Icell) ∧ w.grownBy w' v.ownBlock := by
  rcases h.2 with ⟨rfl, h0⟩ | ⟨g, cap, cur, rfl, hb, hg, h1, h2, h3, h4⟩
  · refine (AnyM.slices_Sort_int_none layT_int none 0 w).mono ?_
    rintro e w' ⟨rfl, rfl⟩
    obtain rfl : xs = [] := List.eq_nil_of_length_eq_zero h0
    exact ⟨rfl, by simpa [sortI] using h, grownBy_refl _ _⟩
  · have hH : Holds (Value.int .i64) w g 0 xs.toArray := holds_of_blockI hg (by simpa [flat_i] using h4)
    refine (AnyM.slices_Sort_int layT_int g 0 cap xs w hH (blk_lt hg) hl).mono ?_
    rintro e w' ⟨rfl, nn, os, rfl⟩
    rw [flat_i]
    exact ⟨rfl, ownsRow_sortedI (n := nn) (os := os) (ts := sortI xs) (length_sortI xs) hb hg h1 h2 h3, grownBy_sortedI (w := w) (g := g) (n := nn) (os := os) (sortI xs).toArray⟩
def restM {K V : Type} [DecidableEq K] (todo : List (K × V)) (k : K) : List (K × V) := todo.filter fun p => decide (p.1 ≠ k)
theorem restM_perm {K V : Type} [DecidableEq K] {todo : List (K × V)} {k : K} {v : V} (hn : (todo.map (·.1)).Nodup) (h : (k, v) ∈ todo) : todo.Perm ((k, v) :: restM todo k) := rest_perm hn h
structure Came (K V : Type) where
  k : K
  v : V
  w : World
theorem wpList_next_C {K V : Type} [DecidableEq K] {κ : K → Value} {ν : V → Value} {w : World} {b r : Nat} {m todo : List (K × V)} {P : Program} {ops : Array Oper} {rest : List Oper} {o : Oper} {a : Act} {Q : Exit → Act → World → Prop}
    (hg : o.guard = none) (it : Operand) (hop : o.op = Op.next it false) (hit : a.eval it = .pointer (some ⟨r, 0, none⟩)) (hi : ∀ a b, κ a = κ b → a = b) (h : RngM κ ν w b r m todo)
    (hDone : todo = [] → wpList P ops Q rest (a.put o.dst (.tuple #[.bool false])) w)
    (hMore : ∀ s : Came K V, Hid ((s.k, s.v) ∈ todo) → Hid (RngM κ ν s.w b r m (restM todo s.k)) → Hid (w.grownBy s.w (some r)) → Hid (s.w.heap.size = w.heap.size) →
      Hid ((Instr.entry (.pointer (some ⟨r, 0, none⟩))).run P s.w = .ok (.tuple #[κ s.k, ν s.v]) s.w) → wpList P ops Q rest (a.put o.dst (.tuple #[.bool true, κ s.k, ν s.v])) s.w) : wpList P ops Q (o :: rest) a w :=
  wpList_next_M hg it hop hit hi h hDone fun k v w' h1 h2 h3 h4 h5 => hMore ⟨k, v, w'⟩ (Lib.hid h1) (Lib.hid h2) (Lib.hid h3) (Lib.hid h4) (Lib.hid h5)
theorem TabAt.opnUp {w w' : World} {t : TB} {d : DT} {m : List (Int × Int)} (h : TabAt w t d) (ho : OwnM (Value.int .i64) (Value.int .i64) w' t.q m) (hg : w.grownBy w' (some t.q)) : TabAt w' t ⟨d.last, m, d.wts, d.top⟩ :=
  ⟨(hg.block _ h.lt.1 (by simpa using h.gq)).trans h.cell, h.last.grown hg (by simpa using h.pq), ho, h.wts.grown hg (by simpa using fun e => h.qr e.symm), h.pq, h.pr, h.qr⟩
theorem TabAt.wtsUp {w w' : World} {t : TB} {d : DT} {m : List ((I64 × I64) × Bool)} (h : TabAt w t d) (ho : OwnM pairK Value.bool w' t.r m) (hg : w.grownBy w' (some t.r)) : TabAt w' t ⟨d.last, d.opn, m, d.top⟩ :=
  ⟨(hg.block _ h.lt.1 (by simpa using h.gr)).trans h.cell, h.last.grown hg (by simpa using h.pr), h.opn.grown hg (by simpa using h.qr), ho, h.pq, h.pr, h.qr⟩
theorem TabAt.lastUp {w w' : World} {t : TB} {d : DT} {m : List (ByteArray × Int)} (h : TabAt w t d) (ho : OwnM Value.string (Value.int .i64) w' t.p m) (hg : w.grownBy w' (some t.p)) : TabAt w' t ⟨m, d.opn, d.wts, d.top⟩ :=
  ⟨(hg.block _ h.lt.1 (by simpa using h.gp)).trans h.cell, ho, h.opn.grown hg (by simpa using fun e => h.pq e.symm), h.wts.grown hg (by simpa using fun e => h.pr e.symm), h.pq, h.pr, h.qr⟩
theorem TabAt.alloc {w : World} {t : TB} {d : DT} (h : TabAt w t d) (o : Obj) : TabAt (w.alloc o) t d := h.below (bel_alloc (Below.refl _ _) o)
theorem TabAt.drew {w : World} {t : TB} {d : DT} (h : TabAt w t d) : TabAt w.drew t d := ⟨h.cell, h.last, h.opn, h.wts, h.pq, h.pr, h.qr⟩
theorem Kept.only {a w w' : World} {X : Nat → Prop} {g : Nat} (h : Kept a w X) (hg : w.grownBy w' (some g)) (hx : X g ∨ a.heap.size ≤ g) : Kept a w' X :=
  ⟨hg.os.trans h.os, hg.tape.trans h.tape, hg.output.trans h.output, Nat.le_trans h.size hg.size, fun k hk hn => (hg.block k (Nat.lt_of_lt_of_le hk h.size) (fun e => by injection e with e; subst e; rcases hx with hx | hx; exact hn hx; omega)).trans (h.block k hk hn)⟩
theorem Kept.row {a w w' : World} {X : Nat → Prop} {row : Option Nat} (h : Kept a w X) (hg : w.grownBy w' row) (hx : ∀ g, row = some g → a.heap.size ≤ g) : Kept a w' X :=
  ⟨hg.os.trans h.os, hg.tape.trans h.tape, hg.output.trans h.output, Nat.le_trans h.size hg.size, fun k hk hn => (hg.block k (Nat.lt_of_lt_of_le hk h.size) (fun e => by have := hx k e.symm; omega)).trans (h.block k hk hn)⟩
theorem RngM.drew {K V : Type} [DecidableEq K] {κ : K → Value} {ν : V → Value} {w : World} {b r : Nat} {m todo : List (K × V)} (h : RngM κ ν w b r m todo) : RngM κ ν w.drew b r m todo := h.of_block rfl rfl
theorem Kept.drew {a b : World} {X : Nat → Prop} (h : Kept a b X) : Kept a b.drew X := ⟨h.os, h.tape, h.output, h.size, h.block⟩
theorem step_delete_R {K V : Type} [DecidableEq K] {κ : K → Value} {ν : V → Value} {w : World} {b r : Nat} {m todo : List (K × V)} {P : Program} {kt vt t : TypeId} {ops : Array Oper} {o : Oper} {a : Act} {Kc : Act → World → Prop} {Q : Exit → Act → World → Prop} {E : Prop}
    (hgd : o.guard = none) (x y : Operand) (kt' : TypeId) (ho : o.op = .call { callee := .builtin .delete, args := #[x, y], argTypes := #[t, kt'] }) (h : RngM κ ν w b r m todo) (hK : Keying P kt κ) (ht : P.underlying t = some (.map kt vt)) (k : K) (hk : k ∉ todo.map (·.1))
    (hx : a.eval x = .map (some b)) (hy : a.eval y = κ k) (hc : ∀ w', RngM κ ν w' b r (mdel m k) todo → w.grownBy w' (some b) → Kc (a.put o.dst (.tuple #[])) w') :
    if Region.wanted o (yielded ops a.tmps) = true then Oper.wp P o a w Kc Q else E := by
  have hw : Region.wanted o (yielded ops a.tmps) = true := by simp [Region.wanted, hgd]
  rw [if_pos hw]
  obtain ⟨w', hr, h1, h2⟩ := h.run_delete hK ht k hk #[t, kt'] rfl o.type
  unfold Oper.wp
  simp [execOp, ho, resolve, invoke, builtin, hx, hy, hr, Result.andThen]
  exact hc w' h1 h2
theorem restM_no {K V : Type} [DecidableEq K] (todo : List (K × V)) (k : K) : k ∉ (restM todo k).map (·.1) := by
  unfold restM
  rw [List.mem_map]
  rintro ⟨p, hp, rfl⟩
  simp at hp
theorem tellL_nil (n : Int) : tellL [] n = [] := rfl
theorem tellL_len (W : List ((I64 × I64) × Bool)) (n : Int) : (tellL W n).length ≤ W.length := by
  unfold tellL; rw [List.length_map]; exact List.length_filter_le _ _
theorem tellL_perm {W W' : List ((I64 × I64) × Bool)} (n : Int) (h : W.Perm W') : (tellL W n).Perm (tellL W' n) := (h.filter _).map _
theorem tellL_cons (p : (I64 × I64) × Bool) (W : List ((I64 × I64) × Bool)) (n : Int) : tellL (p :: W) n = if p.1.2.1 = n then p.1.1.1 :: tellL W n else tellL W n := by
  unfold tellL; rw [List.filter_cons]; simp only [decide_eq_true_eq]; split <;> rfl
theorem tellL_nodup {W : List ((I64 × I64) × Bool)} (n : Int) (h : (W.map (·.1)).Nodup) : (tellL W n).Nodup := by
  induction W with
  | nil => exact List.nodup_nil
  | cons p W ih =>
    simp only [List.map_cons, List.nodup_cons] at h
    rw [tellL_cons]
    split
    · rename_i hp
      refine List.nodup_cons.2 ⟨fun hm => ?_, ih h.2⟩
      obtain ⟨k, hk, h1, h2⟩ := mem_tellL.1 hm
      have : k = p.1 := Prod.ext (Subtype.ext h2) (Subtype.ext (h1.trans hp.symm))
      exact h.1 (this ▸ hk)
    · exact ih h.2
structure DoneAt (d : DT) (n : Int) (m2 : List (Int × Int)) (D : List Int) (todo : List ((I64 × I64) × Bool)) (m2c : List (Int × Int)) (m3c : List ((I64 × I64) × Bool)) (out : List Int) : Prop where
  perm : (D ++ tellL todo n).Perm (tellL d.wts n)
  opn : ∀ a, mget m2c a = if a ∈ D then (mget m2 a).map (· - 1) else mget m2 a
  wts : ∀ k, mget m3c k = if k.2.1 = n ∧ k.1.1 ∈ D then none else mget d.wts k
  out : out = D.filter fun a => decide (mget m2 a = some 1)
theorem DoneAt.start (d : DT) (n : Int) (m2 : List (Int × Int)) : DoneAt d n m2 [] d.wts m2 d.wts [] := ⟨List.Perm.refl _, fun a => by simp, fun k => by simp, rfl⟩
theorem DoneAt.skip {d : DT} {n : Int} {m2 m2c : List (Int × Int)} {D out : List Int} {todo m3c : List ((I64 × I64) × Bool)} {k : I64 × I64} {v : Bool} (h : DoneAt d n m2 D todo m2c m3c out) (hn : k.2.1 ≠ n) (hp : todo.Perm ((k, v) :: restM todo k)) : DoneAt d n m2 D (restM todo k) m2c m3c out := by
  refine ⟨?_, h.opn, h.wts, h.out⟩
  have := tellL_perm n hp
  rw [tellL_cons, if_neg hn] at this
  exact (this.symm.append_left D).trans h.perm
theorem DoneAt.tell {d : DT} {n : Int} {m2 m2c : List (Int × Int)} {D out : List Int} {todo m3c : List ((I64 × I64) × Bool)} {k : I64 × I64} {v : Bool} {c : Int} (h : DoneAt d n m2 D todo m2c m3c out) (hnd : (d.wts.map (·.1)).Nodup) (hn3 : (m3c.map (·.1)).Nodup) (hn : k.2.1 = n) (hp : todo.Perm ((k, v) :: restM todo k))
    (hc : mget m2 k.1.1 = some c) : mget m2c k.1.1 = some c ∧ k.1.1 ∈ tellL d.wts n ∧ DoneAt d n m2 (D ++ [k.1.1]) (restM todo k) (mput m2c k.1.1 (c - 1)) (mdel m3c k) (if c - 1 = 0 then out ++ [k.1.1] else out) := by
  have h1 := tellL_perm n hp
  rw [tellL_cons, if_pos hn] at h1
  have h2 : (D ++ [k.1.1] ++ tellL (restM todo k) n).Perm (tellL d.wts n) := by
    rw [List.append_assoc]
    exact (h1.symm.append_left D).trans h.perm
  have h3 : (D ++ [k.1.1] ++ tellL (restM todo k) n).Nodup := (h2.nodup_iff).2 (tellL_nodup n hnd)
  have h4 : k.1.1 ∉ D := by
    intro hm
    exact (List.nodup_append.1 (List.nodup_append.1 h3).1).2.2 _ hm k.1.1 (by simp) rfl
  have h5 : mget m2c k.1.1 = some c := by rw [h.opn, if_neg h4, hc]
  refine ⟨h5, h2.subset (by simp), h2, fun a => ?_, fun j => ?_, ?_⟩
  · rw [mget_mput]
    by_cases ha : k.1.1 = a
    · subst ha
      rw [if_pos rfl, if_pos (by simp), hc]; rfl
    · rw [if_neg ha, h.opn]
      have : (a ∈ D ++ [k.1.1]) ↔ a ∈ D := by simp; exact fun e => absurd e.symm ha
      simp only [this]
  · rw [mget_mdel hn3]
    by_cases hj : k = j
    · subst hj
      rw [if_pos rfl, if_pos ⟨hn, by simp⟩]
    · rw [if_neg hj, h.wts]
      by_cases hjn : j.2.1 = n
      · have hne : j.1.1 ≠ k.1.1 := fun e => hj (Prod.ext (Subtype.ext e.symm) (Subtype.ext (hn.trans hjn.symm)))
        have : (j.1.1 ∈ D ++ [k.1.1]) ↔ j.1.1 ∈ D := by simp; exact fun e => absurd e hne
        simp only [this]
      · simp [hjn]
  · rw [List.filter_append, ← h.out]
    by_cases hc1 : c - 1 = 0
    · have : c = 1 := by omega
      subst this
      simp [hc]
    · have : ¬ c = 1 := by omega
      simp [hc, hc1, this]
def DonePost (w : World) (t : TB) (d : DT) (n : Int) (e : Ending) (w' : World) : Prop := ∃ v m2 m3, e = .returned (.tuple #[v, .int .i64 0]) ∧
  w'.ownsRow w.heap.size 3 1 v ((tellL d.wts n).filter fun a => decide (mget (mdel d.opn n) a = some 1)).length ((sortI ((tellL d.wts n).filter fun a => decide (mget (mdel d.opn n) a = some 1))).flatMap Icell) ∧
  TabAt w' t ⟨d.last, m2, m3, d.top⟩ ∧ (∀ a, mget m2 a = if a ∈ tellL d.wts n then (mget (mdel d.opn n) a).map (· - 1) else mget (mdel d.opn n) a) ∧ (∀ k, mget m3 k = if k.2.1 = n then none else mget d.wts k) ∧ Kept w w' t.has
end
section
open Go.Maps Go.Sort
set_option maxRecDepth 100000
set_option maxHeartbeats 4000000
theorem tdone_any (t : TB) (d : DT) (n : Int) (w : World) (h : TabAt w t d) (ho : mget d.opn n = some 0) (hl : d.wts.length ≤ 1099511627776) (hc : ∀ a ∈ tellL d.wts n, ∃ c : Int, mget (mdel d.opn n) a = some c ∧ 1 ≤ c ∧ c ≤ 1099511627776) :
    Calls Tryz.prog 63 #[.pointer (some ⟨t.g, 0, none⟩), .int .i64 n] w (DonePost w t d n) := by
  obtain ⟨-, c1, c2, -⟩ := h.cells
  have hm := h.opn
  obtain ⟨i0, hi, hz0, hz1, hz2⟩ := info_parts info_int
  have hlts := h.lt
  have Hl := Lib.hid hl
  have Hc := Lib.hid hc
  have Hnd := Lib.hid h.wts.nodup
  clear hl hc
  go_enter Tryz.func63, Tryz.ntmps63
  go_wp2_with fail
  refine (gone_any t d _ h).mono ?_
  rintro e w1 ⟨rfl, rfl⟩
  obtain ⟨m2, hm2⟩ : ∃ m2, m2 = mdel d.opn n := ⟨_, rfl⟩
  go_wp2_with (first
    | (at_lookup; refine wpList_lookup_ok_M (κ := Value.int .i64) (ν := Value.int .i64) (b := t.q) (m := d.opn) rfl _ _ rfl hm kint Tryz.underlying101 zint n rfl rfl ?_; rw [int_or, ho])
    | (at_delete; refine wpList_delete_M (t := 101) (κ := Value.int .i64) (ν := Value.int .i64) (b := t.q) (m := d.opn) rfl _ _ _ rfl hm kint Tryz.underlying101 n rfl rfl ?_; intro w2 hown2 hg2; have Hg2 := Lib.hid hg2; have Hown2 := Lib.hid hown2; have ht2 := h.opnUp hown2 hg2; obtain ⟨-, c1, c2, -⟩ := ht2.cells; have Ht2 := Lib.hid ht2; have hw3 := ht2.wts; clear hown2 hg2)
    | (at_range; refine wpList_range_M (κ := pairK) (ν := Value.bool) (b := t.r) (m := d.wts) rfl _ rfl Tryz.underlying102 rfl hw3 ?_; intro w0 hr0 hg0 hs0))
  try go_frame
  have hb0 : Kept w1 w0 t.has := (((Kept.refl w1 _).only Hg2.out (Or.inl (Or.inr (Or.inr (Or.inl rfl))))).row hg0 (fun g e => by cases e))
  have hk2 : w1.heap.size ≤ w2.heap.size := Hg2.out.size
  have htw0 : TabAt w0 t ⟨d.last, m2, d.wts, d.top⟩ := by rw [hm2]; exact Ht2.out.of_blocks (fun k hk => hg0.block k (Ht2.out.has_lt hk) (by simp))
  have Htw0 := Lib.hid htw0
  have Hm2 := Lib.hid hm2
  rw [← hm2] at Hc
  have Hb0 := Lib.hid hb0
  have Hr0 := Lib.hid hr0
  clear htw0 hm2 hb0 hr0 Ht2 Hown2
  go_loopw [8] (fun v wr => ∃ (todo m3c : List ((I64 × I64) × Bool)) (D out : List Int) (m2c : List (Int × Int)), Hid (RngM pairK Value.bool wr t.r w2.heap.size m3c todo) ∧ Hid (TabAt wr t ⟨d.last, m2c, m3c, d.top⟩) ∧ Hid (DoneAt d n m2 D todo m2c m3c out) ∧ Hid (wr.ownsRow (w2.heap.size + 1) 3 1 v out.length (out.flatMap Icell)) ∧ Hid (Kept w1 wr t.has)) (fun _ wr => wr.rangeLeft t.r w2.heap.size)
  case atStart => exact ⟨d.wts, d.wts, [], [], m2, Hr0, Htw0, Lib.hid (DoneAt.start _ _ _), Lib.hid (World.ownsRow_nil _ _ _ _), Hb0⟩
  case round =>
    obtain ⟨todo, m3c, D, out, m2c, HR, HT, HD, HO, HB⟩ := hrel
    have hm0 := HR.out.left_eq
    have hit := HR.out.lt
    have hol : out.length ≤ 1099511627776 := by
      have h1 := HD.out.perm.length_eq
      rw [List.length_append] at h1
      have h2 := tellL_len d.wts n
      have h3 := Hl.out
      have h4 : out.length ≤ D.length := by rw [HD.out.out]; exact List.length_filter_le _ _
      omega
    go_wp2_with (at_next; refine wpList_next_C (κ := pairK) (ν := Value.bool) rfl _ rfl rfl kpair.inj HR.out ?_ ?_)
    · intro hnil
      subst hnil
      have hP := HD.out.perm
      rw [tellL_nil, List.append_nil] at hP
      have HP2 := Lib.hid hP
      clear hP hm0
      go_wp2_with fail
      refine (sortRow_any _ _ out _ HO.out (by omega)).mono ?_
      rintro e w3 ⟨rfl, ho3, hg3⟩
      have Ho3 := Lib.hid ho3
      have Hg3 := Lib.hid hg3
      clear ho3 hg3
      go_wp2_with fail
      go_ret2
      have hout : out.Perm ((tellL d.wts n).filter fun a => decide (mget (mdel d.opn n) a = some 1)) := by rw [HD.out.out, ← Hm2.out]; exact HP2.out.filter _
      have hlow : ∀ k, t.has k → some k ≠ u8.ownBlock := fun k hk => row_ne_low HO.out (by rcases hk with rfl | rfl | rfl | rfl <;> omega)
      refine ⟨_, m2c, m3c, rfl, ?_, HT.out.of_blocks (fun k hk => Hg3.out.block k (HT.out.has_lt hk) (hlow k hk)), fun a => ?_, fun k => ?_, HB.out.row Hg3.out (fun g hg => by have := (HO.out.lt g hg).1; omega)⟩
      · rw [← hout.length_eq, ← sortI_perm hout]
        exact ownsRow_base_a Ho3.out (by omega)
      · rw [HD.out.opn, ← Hm2.out]
        simp only [HP2.out.mem_iff]
      · rw [HD.out.wts]
        by_cases hkn : k.2.1 = n
        · rw [if_pos hkn]
          by_cases hkd : k.1.1 ∈ D
          · rw [if_pos ⟨hkn, hkd⟩]
          · rw [if_neg (fun e => hkd e.2), mget_none_iff]
            intro hmem
            exact hkd (HP2.out.mem_iff.2 (mem_tellL.2 ⟨k, hmem, hkn, rfl⟩))
        · rw [if_neg hkn, if_neg (fun e => hkn e.1)]
    · rintro ⟨⟨⟨ka, hka⟩, ⟨kb, hkb⟩⟩, v, w3⟩ Hk Hr3 Hg3 Hs3 Hen
      have hk := Hk.out
      have hr3 := Hr3.out
      have hg3 := Hg3.out
      have hs3 := Hs3.out
      have hen := Hen.out
      clear Hk Hr3 Hg3 Hs3 Hen
      simp only at hk hr3 hg3 hs3 hen
      have hpm := restM_perm (HR.out.sub kpair.inj) hk
      have hlen : (restM todo (⟨ka, hka⟩, ⟨kb, hkb⟩)).length < todo.length := by rw [hpm.length_eq]; simp
      have hb3 : Kept w1 w3 t.has := HB.out.only hg3 (Or.inr (by omega))
      have ho3 : w3.ownsRow (w2.heap.size + 1) 3 1 u8 out.length (out.flatMap Icell) := HO.out.kept hg3 (by
        cases hob : u8.ownBlock with
        | none => exact Or.inl rfl
        | some g => exact Or.inr (fun e => by have := (HO.out.lt g hob).1; simp at e; omega))
      have ht3 : TabAt w3 t ⟨d.last, m2c, m3c, d.top⟩ := HT.out.of_blocks (fun k hk => hg3.block k (HT.out.has_lt hk) (by rcases hk with rfl | rfl | rfl | rfl <;> simp <;> omega))
      have hlt3 : w2.heap.size < w3.heap.size := by omega
      have hkin : kb = n → ka ∈ tellL todo n := fun e => mem_tellL.2 ⟨(⟨ka, hka⟩, ⟨kb, hkb⟩), List.mem_map.2 ⟨_, hk, rfl⟩, e, rfl⟩
      have Hkin := Lib.hid hkin
      clear hkin
      have Hr3 := Lib.hid hr3
      have Hb3 := Lib.hid hb3
      have Ho3 := Lib.hid ho3
      have Ht3 := Lib.hid ht3
      have Hpm := Lib.hid hpm
      have Hlen := Lib.hid hlen
      clear hr3 hg3 hpm hb3 ho3 ht3 hs3 hlen hk
      simp only [pairK] at hen ⊢
      by_cases hkn : kb = n
      · subst hkn
        obtain ⟨c, hcg, hc1, hc2⟩ := Hc.out ka (HD.out.perm.subset (List.mem_append_right _ (Hkin.out rfl)))
        obtain ⟨hget, -, hd'⟩ := HD.out.tell Hnd.out HT.out.wts.nodup rfl Hpm.out hcg
        have Hget := Lib.hid hget
        have HD2 := Lib.hid hd'
        have Hc12 := Lib.hid (And.intro hc1 hc2)
        clear hcg hget hd' hc1 hc2
        go_wp2_with fail
        obtain ⟨wa, hwa⟩ : ∃ wa : World, wa = w3.alloc (.cells #[.int .i64 ka, .int .i64 kb] 91) := ⟨_, rfl⟩
        rw [← hwa]
        have hra : RngM pairK Value.bool wa t.r w2.heap.size m3c (restM todo (⟨ka, hka⟩, ⟨kb, hkb⟩)) := by rw [hwa]; exact Hr3.out.alloc _
        have hta : TabAt wa t ⟨d.last, m2c, m3c, d.top⟩ := by rw [hwa]; exact Ht3.out.alloc _
        have hoa : wa.ownsRow (w2.heap.size + 1) 3 1 u8 out.length (out.flatMap Icell) := by rw [hwa]; exact Ho3.out.alloc _
        have hba : Kept w1 wa t.has := by rw [hwa]; exact Hb3.out.alloc _
        have hblk : wa.heap[w3.heap.size]? = some (.cells #[.int .i64 ka, .int .i64 kb] 91 (0, 0)) := by rw [hwa]; exact blk_new _ _
        have hsa : wa.heap.size = w3.heap.size + 1 := by rw [hwa]; simp
        obtain ⟨-, c1, c2, -⟩ := hta.cells
        have z0 := blk_cell hblk 0
        have z1 := blk_cell hblk 1
        simp only [List.getElem?_toArray, List.getElem?_cons_zero, List.getElem?_cons_succ] at z0 z1
        have Hra := Lib.hid hra
        have Hta := Lib.hid hta
        have Hoa := Lib.hid hoa
        have Hba := Lib.hid hba
        have Hblk := Lib.hid hblk
        have Hsa := Lib.hid hsa
        clear hra hta hoa hba hblk hsa hwa
        go_region_law (first | (refine step_delete_R (κ := pairK) (ν := Value.bool) rfl _ _ 91 rfl Hra.out.drew kpair Tryz.underlying102 (⟨ka, hka⟩, ⟨kb, hkb⟩) (restM_no _ _) rfl rfl ?_; intro w4 hr4 hg4))
        all_goals
          have ht4 : TabAt w4 t ⟨d.last, m2c, mdel m3c (⟨ka, hka⟩, ⟨kb, hkb⟩), d.top⟩ := Hta.out.drew.wtsUp hr4.own hg4
          have hb4 : Kept w1 w4 t.has := Hba.out.drew.only hg4 (Or.inl (Or.inr (Or.inr (Or.inr rfl))))
          have ho4 : w4.ownsRow (w2.heap.size + 1) 3 1 u8 out.length (out.flatMap Icell) := (ownsRow_below Hoa.out (bel_drew (Below.refl _ _))).kept hg4 (Or.inr (row_ne_low Hoa.out (by omega)).symm)
          have hblk4 := (hg4.block w3.heap.size (by have := Hsa.out; show w3.heap.size < wa.heap.size; omega) (by simp; omega)).trans Hblk.out
          obtain ⟨-, c1, c2, -⟩ := ht4.cells
          have z0 := blk_cell hblk4 0
          simp only [List.getElem?_toArray, List.getElem?_cons_zero, List.getElem?_cons_succ] at z0
          have hlk := ht4.opn.drew.run_lookup kint Tryz.underlying101 (zint _) ka false
          rw [int_or, Hget.out] at hlk
          simp only [Option.getD_some, Bool.false_eq_true, if_false] at hlk
          obtain ⟨w5, hup, hown5, hg5⟩ := ht4.opn.drew.run_update kint Tryz.underlying101 ka (c - 1)
          have hwr : IntKind.i64.wrap (c - 1) = c - 1 := (by have := Hc12.out; rw [IntKind.wrap_i64]; omega)
          have Hr4 := Lib.hid hr4
          have Ht4 := Lib.hid ht4
          have Hb4 := Lib.hid hb4
          have Ho4 := Lib.hid ho4
          have Hblk4 := Lib.hid hblk4
          have Hg4 := Lib.hid hg4
          have Hown5 := Lib.hid hown5
          have Hg5 := Lib.hid hg5
          clear hr4 ht4 hb4 ho4 hblk4 hg4 hown5 hg5
          go_wp2_with fail
          go_region_law (fail)
          all_goals
            have hg5 := Hg5.out
            have ht5 : TabAt w5 t ⟨d.last, mput m2c ka (c - 1), mdel m3c (⟨ka, hka⟩, ⟨kb, hkb⟩), d.top⟩ := Ht4.out.drew.opnUp Hown5.out hg5
            have hr5 : RngM pairK Value.bool w5 t.r w2.heap.size (mdel m3c (⟨ka, hka⟩, ⟨kb, hkb⟩)) (restM todo (⟨ka, hka⟩, ⟨kb, hkb⟩)) := Hr4.out.drew.kept hg5 (by simpa using fun e => h.qr e.symm) (by simp; omega)
            have hb5 : Kept w1 w5 t.has := Hb4.out.drew.only hg5 (Or.inl (Or.inr (Or.inr (Or.inl rfl))))
            have ho5 : w5.ownsRow (w2.heap.size + 1) 3 1 u8 out.length (out.flatMap Icell) := (ownsRow_below Ho4.out (bel_drew (Below.refl _ _))).kept hg5 (Or.inr (row_ne_low Ho4.out (by omega)).symm)
            have hblk5 := (hg5.block w3.heap.size (by have := Hsa.out; have := Hg4.out.size; have h7 : wa.drew.heap.size = wa.heap.size := rfl; show w3.heap.size < w4.heap.size; omega) (by simp; omega)).trans Hblk4.out
            have hs5 : w2.heap.size + 1 ≤ w5.heap.size := by have := Hsa.out; have := Hg4.out.size; have h7 : wa.drew.heap.size = wa.heap.size := rfl; have := hg5.size; have h8 : w4.drew.heap.size = w4.heap.size := rfl; omega
            obtain ⟨-, c1, c2, -⟩ := ht5.cells
            have z0 := blk_cell hblk5 0
            simp only [List.getElem?_toArray, List.getElem?_cons_zero, List.getElem?_cons_succ] at z0
            have hlk := ht5.opn.drew.run_lookup kint Tryz.underlying101 (zint _) ka false
            rw [int_or, mget_mput, if_pos rfl] at hlk
            simp only [Option.getD_some, Bool.false_eq_true, if_false] at hlk
            have Hr5 := Lib.hid hr5
            have Ht5 := Lib.hid ht5
            have Hb5 := Lib.hid hb5
            have Ho5 := Lib.hid ho5
            clear hr5 ht5 hb5 ho5 hblk5 hg5 hup hwr Hr4 Ht4 Hb4 Ho4 Hblk4 Hg4 Hown5 Hg5 Hra Hta Hoa Hba Hblk Hsa
            go_wp2_with fail
            by_cases hc0 : c - 1 = 0
            · have hce : (c - 1 == 0) = true := by simpa using hc0
              go_region_law (fail)
              all_goals simp only [Act.put, List.getElem_toArray, List.getElem_cons_succ, List.getElem_cons_zero, List.setIfInBounds_toArray, List.set_cons_succ, List.set_cons_zero]
              all_goals
                have How5 : w5.ownsRow (w2.heap.size + 1) 3 1 u8 out.length _ := Ho5.out
                have hd2 := HD2.out
                rw [if_pos hc0] at hd2
                have Hd2 := Lib.hid hd2
                clear hd2
                go_wp2_with (at_builtin; refine wpList_append_own _ rfl _ _ 25 rfl (w2.heap.size + 1) 3 i0 _ 1 8 Tryz.underlying25 hi hz0 hz1 hz2 rfl (by decide) _ _ _ rfl (ownsRow_below How5 (bel_drew (bel_alloc (Below.refl _ _) _))) ⟨w5.heap.size, 0, none⟩ 1 1 (Icell ka) rfl rfl (cells_new w5 (Icell ka) _) (one_int _) (by simp only [maxLen]; omega) (by omega) (by simp; omega) ?_; intro v' w' hown' hg' hn')
                have hr' := ((Hr5.out.alloc _).drew).kept hg' (row_ne_low How5 (by omega)) (row_ne_low How5 (by omega))
                refine ⟨⟨_, _, _, out ++ [ka], _, Lib.hid hr', Lib.hid (((Ht5.out.alloc _).drew).of_blocks (fun k hk => hg'.block k ((Ht5.out.alloc _).drew.has_lt hk) (row_ne_low How5 (by rcases hk with rfl | rfl | rfl | rfl <;> omega)))), Hd2, Lib.hid ?_, Lib.hid ((Hb5.out.alloc _).drew.row hg' (fun g hg => by have := (How5.lt g hg).1; omega))⟩, ?_⟩
                · rw [List.length_append, List.flatMap_append]; simpa using hown'
                · rw [hr'.left_eq, hm0]; exact Hlen.out
            · have hce : (c - 1 == 0) = false := by simpa using hc0
              go_region_law (fail)
              all_goals simp only [Act.put, List.getElem_toArray, List.getElem_cons_succ, List.getElem_cons_zero, List.setIfInBounds_toArray, List.set_cons_succ, List.set_cons_zero]
              all_goals
                go_wp2_with fail
                have hd2 := HD2.out
                rw [if_neg hc0] at hd2
                have hr' : RngM pairK Value.bool w5.drew t.r w2.heap.size (mdel m3c (⟨ka, hka⟩, ⟨kb, hkb⟩)) (restM todo (⟨ka, hka⟩, ⟨kb, hkb⟩)) := Hr5.out.of_block rfl rfl
                refine ⟨⟨_, _, _, out, _, Lib.hid hr', Lib.hid (Ht5.out.of_blocks (fun _ _ => rfl)), Lib.hid hd2, Lib.hid (ownsRow_below Ho5.out (bel_drew (Below.refl _ _))), Lib.hid Hb5.out.drew⟩, ?_⟩
                rw [hr'.left_eq, hm0]; exact Hlen.out
      · have hne : (kb == n) = false := by simpa using hkn
        have hne2 : (kb != n) = true := by simpa using hkn
        go_wp2_with fail
        have hr' := Hr3.out.alloc (.cells #[.int .i64 ka, .int .i64 kb] 91)
        refine ⟨⟨_, m3c, D, out, m2c, Lib.hid hr', Lib.hid (Ht3.out.alloc _), Lib.hid (HD.out.skip hkn Hpm.out), Lib.hid (Ho3.out.alloc _), Lib.hid (Hb3.out.alloc _)⟩, ?_⟩
        rw [hr'.left_eq, hm0]; exact Hlen.out
end
section
open Go.Maps Go.Sort
theorem addW_cnt (d : DT) (n : Int) (s : List ((I64 × I64) × Bool) × Nat) (x : Wr) : (addW d n s x).2 ≤ s.2 + 1 := by unfold addW; split <;> simp
theorem addWs_cnt (d : DT) (n : Int) (ws : List Wr) : ∀ k, (addWs d n ws k).2 ≤ k
  | 0 => by simp [addWs]
  | k + 1 => by
    cases h : ws[k]? with
    | none =>
      have : addWs d n ws (k + 1) = addWs d n ws k := by unfold addWs; rw [List.take_add_one, h]; simp
      rw [this]; have := addWs_cnt d n ws k; omega
    | some x => rw [addWs_succ d n h]; have := addW_cnt d n (addWs d n ws k) x; have := addWs_cnt d n ws k; omega
def AddPost (w : World) (t : TB) (d : DT) (n : Int) (ws : List Wr) (e : Ending) (w' : World) : Prop := e = .returned (.tuple #[.int .i64 (addWs d n ws ws.length).2, .int .i64 0]) ∧
  TabAt w' t ⟨putL d.last n ws ws.length, mput d.opn n (addWs d n ws ws.length).2, (addWs d n ws ws.length).1, n⟩ ∧ Kept w w' t.has
end
section
open Go.Maps Go.Sort
set_option maxRecDepth 100000
set_option maxHeartbeats 4000000
theorem tadd_any (t : TB) (d : DT) (n : Int) (A : Option Addr) (len cap : Nat) (ws : List Wr) (w : World) (h : TabAt w t d) (hws : ∀ X, Kept w X t.has → WsAt X X.heap.size A len ws) (hb : txB n ws = true) (htop : d.top < n) (hlast : ∀ p ∈ d.last, 0 ≤ p.2 ∧ p.2 ≤ 65536) :
    Calls Tryz.prog 60 #[.pointer (some ⟨t.g, 0, none⟩), .agg #[.int .i64 n, .slice A len cap]] w (AddPost w t d n ws) := by
  have hlen := Lib.hid (hws w (Kept.refl _ _)).len
  have hn : 1 ≤ n ∧ n ≤ 65536 ∧ ws.length ≤ 32 := by
    simp only [txB, Bool.and_eq_true, decide_eq_true_eq] at hb; exact ⟨hb.1.1.1, hb.1.1.2, hb.1.2⟩
  have hle : decide (n ≤ d.top) = false := decide_eq_false (by omega)
  obtain ⟨W1, hW1⟩ : ∃ W1 : World, W1 = w.alloc (.cells #[.int .i64 n, .slice A len cap] 45) := ⟨_, rfl⟩
  have hT1 : TabAt W1 t d := by rw [hW1]; exact h.alloc _
  have hlts := h.lt
  have hK1 : Kept w W1 t.has := by rw [hW1]; exact (Kept.refl _ _).alloc _
  have hz : W1.heap.size = w.heap.size + 1 := by rw [hW1]; simp
  have hx : ∀ X : World, Kept W1 X t.has → X.cell? ⟨w.heap.size, 0, none⟩ = some (.int .i64 n) ∧ X.cell? ⟨w.heap.size, 1, none⟩ = some (.slice A len cap) ∧ WsAt X X.heap.size A len ws ∧ W1.heap.size ≤ X.heap.size ∧ Kept w X t.has := fun X hX => by
    have hblk : X.heap[w.heap.size]? = some (.cells #[.int .i64 n, .slice A len cap] 45 (0, 0)) := (hX.block _ (by omega) (fun hh => by rcases hh with e | e | e | e <;> omega)).trans (by rw [hW1]; exact blk_new _ _)
    have x0 := blk_cell hblk 0
    have x1 := blk_cell hblk 1
    simp only [List.getElem?_toArray, List.getElem?_cons_zero, List.getElem?_cons_succ] at x0 x1
    exact ⟨x0, x1, hws X (hK1.trans hX), hX.size, hK1.trans hX⟩
  have HX := Lib.hid hx
  have Hb := Lib.hid hb
  have Hlast := Lib.hid hlast
  have Hn := Lib.hid hn
  have Hz := Lib.hid hz
  clear hx hb hlast hn hws hK1 hz htop
  go_enter Tryz.func60, Tryz.ntmps60
  go_wp2_with fail
  rw [← hW1]
  refine (gone_any t d _ hT1).mono ?_
  rintro e w1 ⟨rfl, rfl⟩
  obtain ⟨x0, x1, hwx, -, -⟩ := HX.out w1 (Kept.refl _ _)
  clear hW1
  go_wp2_with fail
  refine (check_any n A len cap ws _ hwx (by have := Hn.out; have := hlen.out; omega)).mono ?_
  rintro e w2 ⟨rfl, hb2⟩
  rw [Hb.out]
  have hT2 := hT1.below hb2
  have hK2 : Kept w1 w2 t.has := Kept.of_below hb2
  obtain ⟨x0, x1, hwx, -, -⟩ := HX.out w2 hK2
  obtain ⟨-, -, -, c3⟩ := hT2.cells
  have HT2 := Lib.hid hT2
  have HK2 := Lib.hid hK2
  clear hT2 hK2 hb2 hT1 hwx
  have e0 : errOf true = 0 := rfl
  go_wp2_with fail
  go_quiet (fail)
  go_wp2_with fail
  have hl32 : len ≤ 32 := by have := Hn.out; have := hlen.out; omega
  go_loopw [6, 32] (fun c i wr => ∃ k : Nat, k ≤ len ∧ i = .int .i64 k ∧ c = .int .i64 ((addWs d n ws k).2 : Nat) ∧ Hid (TabAt wr t ⟨d.last, d.opn, (addWs d n ws k).1, d.top⟩) ∧ Hid (Kept w1 wr t.has)) (fun _ i _ => len - (RowKit.intOf i).toNat)
  case atStart => exact ⟨0, Nat.zero_le _, rfl, rfl, Lib.hid (HT2.out.of_blocks (fun _ _ => rfl)), Lib.hid (HK2.out.drewN _)⟩
  case round =>
    obtain ⟨k, hk, rfl, rfl, HT, HK⟩ := hrel
    obtain ⟨x0, x1, hwx, hsw, hkw⟩ := HX.out wr HK.out
    have Hsw := Lib.hid hsw
    clear hsw hkw
    by_cases hkl : k < len
    · obtain ⟨bb, off, x, hA, hbl, hx, y0, y1, y2⟩ := WsAt.cell3 hwx hkl
      subst hA
      have hsucc := addWs_succ d n hx
      have hcnt := addWs_cnt d n ws k
      generalize addWs d n ws k = sk at *
      obtain ⟨W, c⟩ := sk
      have Hsucc := Lib.hid hsucc
      have Hx := Lib.hid hx
      clear hsucc hwx hx
      simp only at HT hcnt
      obtain ⟨l, hl⟩ : ∃ l : Int, l = (mget d.last x.key).getD 0 := ⟨_, rfl⟩
      have hl0 : 0 ≤ l ∧ l ≤ 65536 := by
        rw [hl]
        cases hg : mget d.last x.key with
        | none => simp
        | some v => exact Hlast.out _ (mget_some_mem hg)
      obtain ⟨o, ho⟩ : ∃ o : Bool, o = (mget d.opn l).isSome := ⟨_, rfl⟩
      obtain ⟨b, hb⟩ : ∃ b : Bool, b = (mget W (toI n, toI l)).getD false := ⟨_, rfl⟩
      have Hl := Lib.hid hl
      have Ho := Lib.hid ho
      have Hbb := Lib.hid hb
      clear hl ho hb
      obtain ⟨wc, hwc⟩ : ∃ wc : World, wc = wr.alloc (.cells #[.string x.key, .string x.val, .bool x.drop] 85) := ⟨_, rfl⟩
      have hTc : TabAt wc t ⟨d.last, d.opn, W, d.top⟩ := by rw [hwc]; exact HT.out.alloc _
      have hKc : Kept w1 wc t.has := by rw [hwc]; exact HK.out.alloc _
      have hzc : wc.heap.size = wr.heap.size + 1 := by rw [hwc]; simp
      have hxc : wc.heap[wr.heap.size]? = some (.cells #[.string x.key, .string x.val, .bool x.drop] 85 (0, 0)) := by rw [hwc]; exact blk_new _ _
      have hS : ∀ X, Below wc.heap.size wc X → X.cell? ⟨w.heap.size, 0, none⟩ = some (.int .i64 n) ∧ X.cell? ⟨t.g, 0, none⟩ = some (.map (some t.p)) ∧ X.cell? ⟨wr.heap.size, 0, none⟩ = some (.string x.key) ∧ (Instr.lookup 100 (.map (some t.p)) (.string x.key) false).run Tryz.prog X = .ok (.int .i64 l) X := fun X hX => by
        have hTX := hTc.below hX
        obtain ⟨c0, -⟩ := hTX.cells
        obtain ⟨x0, -⟩ := HX.out X (hKc.trans (Kept.of_below hX))
        have hbX := (hX.block wr.heap.size (by omega)).trans hxc
        have z0 := blk_cell hbX 0
        simp only [List.getElem?_toArray, List.getElem?_cons_zero, List.getElem?_cons_succ] at z0
        have hlk := hTX.last.run_lookup kstr Tryz.underlying100 (zint _) x.key false
        rw [last_or, ← Hl.out] at hlk
        simp only [Bool.false_eq_true, if_false] at hlk
        exact ⟨x0, c0, z0, hlk⟩
      obtain ⟨x0, c0, z0, hlk⟩ := hS wc (Below.refl _ _)
      have HS := Lib.hid hS
      have HTc := Lib.hid hTc
      have HKc := Lib.hid hKc
      have Hzc := Lib.hid hzc
      clear hS hTc hKc hzc hxc
      go_wp2_with fail
      rw [← hwc]
      have Hwc := Lib.hid hwc
      clear hwc
      go_region_held3 (fun X => X.cell? ⟨w.heap.size, 0, none⟩ = some (.int .i64 n) ∧ X.cell? ⟨t.g, 0, none⟩ = some (.map (some t.p)) ∧ X.cell? ⟨wr.heap.size, 0, none⟩ = some (.string x.key) ∧ (Instr.lookup 100 (.map (some t.p)) (.string x.key) false).run Tryz.prog X = .ok (.int .i64 l) X)
        (first | (refine HS.out _ ?_; (first | exact bel_drew (Below.refl _ _) | exact bel_drew (bel_alloc (Below.refl _ _) _) | exact bel_alloc (bel_drew (Below.refl _ _)) _)))
        (first | fail)
      all_goals
        obtain ⟨wa, hwa⟩ : ∃ wa : World, wa = (wc.alloc (.cells #[.int .i64 n, .int .i64 l] 91)).drew := ⟨_, rfl⟩
        have hTa : TabAt wa t ⟨d.last, d.opn, W, d.top⟩ := by rw [hwa]; exact (HTc.out.alloc _).drew
        have hKa : Kept w1 wa t.has := by rw [hwa]; exact (HKc.out.alloc _).drew
        have hza : wa.heap[wc.heap.size]? = some (.cells #[.int .i64 n, .int .i64 l] 91 (0, 0)) := by rw [hwa]; exact blk_new _ _
        have hwn : (Lit.int .i64 n).wf = true := WalkArith.wf_i64 (by have := Hn.out; omega)
        have hwl : (Lit.int .i64 l).wf = true := WalkArith.wf_i64 (by omega)
        have hpk : pairK (toI n, toI l) = .agg #[.int .i64 n, .int .i64 l] := by simp only [pairK, toI_val hwn, toI_val hwl]
        have hS2 : ∀ X, Below wa.heap.size wa X → X.cell? ⟨t.g, 1, none⟩ = some (.map (some t.q)) ∧ X.cell? ⟨t.g, 2, none⟩ = some (.map (some t.r)) ∧ X.cell? ⟨wc.heap.size, 0, none⟩ = some (.int .i64 n) ∧ X.cell? ⟨wc.heap.size, 1, none⟩ = some (.int .i64 l) ∧ (Instr.lookup 101 (.map (some t.q)) (.int .i64 l) true).run Tryz.prog X = .ok (.tuple #[.int .i64 ((mget d.opn l).getD 0), .bool o]) X ∧ (Instr.lookup 102 (.map (some t.r)) (.agg #[.int .i64 n, .int .i64 l]) false).run Tryz.prog X = .ok (.bool b) X := fun X hX => by
          have hTX := hTa.below hX
          obtain ⟨-, c1, c2, -⟩ := hTX.cells
          have hbX := (hX.block wc.heap.size (blk_lt hza)).trans hza
          have z0 := blk_cell hbX 0
          have z1 := blk_cell hbX 1
          simp only [List.getElem?_toArray, List.getElem?_cons_zero, List.getElem?_cons_succ] at z0 z1
          have hl1 := hTX.opn.run_lookup kint Tryz.underlying101 (zint _) l true
          rw [int_or, ← Ho.out] at hl1
          simp only [if_true] at hl1
          have hl2 := hTX.wts.run_lookup kpair Tryz.underlying102 (z := .bool false) (by kernel_rfl) (toI n, toI l) false
          rw [wait_or, ← Hbb.out, hpk] at hl2
          simp only [Bool.false_eq_true, if_false] at hl2
          exact ⟨c1, c2, z0, z1, hl1, hl2⟩
        obtain ⟨c1, c2, z0, z1, hl1, hl2⟩ := hS2 wa (Below.refl _ _)
        have HS2 := Lib.hid hS2
        have HTa := Lib.hid hTa
        have HKa := Lib.hid hKa
        have Hza := Lib.hid hza
        have Hpk := Lib.hid hpk
        rw [← hwa]
        clear hS2 hTa hKa hza hpk hwa hwn hwl
        go_wp2_with fail
        go_region_held3 (fun X => X.cell? ⟨t.g, 1, none⟩ = some (.map (some t.q)) ∧ X.cell? ⟨t.g, 2, none⟩ = some (.map (some t.r)) ∧ X.cell? ⟨wc.heap.size, 0, none⟩ = some (.int .i64 n) ∧ X.cell? ⟨wc.heap.size, 1, none⟩ = some (.int .i64 l) ∧ (Instr.lookup 101 (.map (some t.q)) (.int .i64 l) true).run Tryz.prog X = .ok (.tuple #[.int .i64 ((mget d.opn l).getD 0), .bool o]) X ∧ (Instr.lookup 102 (.map (some t.r)) (.agg #[.int .i64 n, .int .i64 l]) false).run Tryz.prog X = .ok (.bool b) X)
          (first | (refine HS2.out _ ?_; (first | exact bel_drew (Below.refl _ _) | exact bel_drew (bel_drew (Below.refl _ _)))))
          (first | fail)
        obtain ⟨c1, c2, z0, z1, hl1, hl2⟩ := HS2.out wa.drew (bel_drew (Below.refl _ _))
        cases o
        case false =>
          go_wp2_with fail
          (first | (go_region_law (fail)) | fail)
          all_goals try simp only [Act.put, List.getElem_toArray, List.getElem_cons_succ, List.getElem_cons_zero, List.setIfInBounds_toArray, List.set_cons_succ, List.set_cons_zero]
          all_goals
            go_wp2_with fail
            have hadd : addW d n (W, c) x = (W, c) := by
              simp only [addW, ← Hl.out]
              rw [if_neg (by rw [← Ho.out]; simp)]
            refine ⟨⟨k + 1, by omega, by go_num, by rw [Hsucc.out, hadd], Lib.hid ?_, Lib.hid ⟨HKa.out.os, HKa.out.tape, HKa.out.output, HKa.out.size, HKa.out.block⟩⟩, by simp [RowKit.intOf]; omega⟩
            rw [Hsucc.out, hadd]
            exact HTa.out.of_blocks (fun _ _ => rfl)
        case true =>
          go_wp2_with fail
          go_region_held3 (fun X => X.cell? ⟨t.g, 1, none⟩ = some (.map (some t.q)) ∧ X.cell? ⟨t.g, 2, none⟩ = some (.map (some t.r)) ∧ X.cell? ⟨wc.heap.size, 0, none⟩ = some (.int .i64 n) ∧ X.cell? ⟨wc.heap.size, 1, none⟩ = some (.int .i64 l) ∧ (Instr.lookup 101 (.map (some t.q)) (.int .i64 l) true).run Tryz.prog X = .ok (.tuple #[.int .i64 ((mget d.opn l).getD 0), .bool true]) X ∧ (Instr.lookup 102 (.map (some t.r)) (.agg #[.int .i64 n, .int .i64 l]) false).run Tryz.prog X = .ok (.bool b) X)
            (first | (refine HS2.out _ ?_; (first | exact bel_drew (Below.refl _ _) | exact bel_drew (bel_drew (Below.refl _ _)))))
            (first | fail)
          all_goals try simp only [Act.put, List.getElem_toArray, List.getElem_cons_succ, List.getElem_cons_zero, List.setIfInBounds_toArray, List.set_cons_succ, List.set_cons_zero]
          all_goals
            cases b
            case true =>
              go_wp2_with fail
              have hadd : addW d n (W, c) x = (W, c) := by
                simp only [addW, ← Hl.out]
                rw [if_neg (by rw [← Hbb.out]; simp)]
              refine ⟨⟨k + 1, by omega, by go_num, by rw [Hsucc.out, hadd], Lib.hid ?_, Lib.hid ⟨HKa.out.os, HKa.out.tape, HKa.out.output, HKa.out.size, HKa.out.block⟩⟩, by simp [RowKit.intOf]; omega⟩
              rw [Hsucc.out, hadd]
              exact HTa.out.of_blocks (fun _ _ => rfl)
            case false =>
              have hT13 : TabAt wa.drew.drew.drew t ⟨d.last, d.opn, W, d.top⟩ := HTa.out.of_blocks (fun _ _ => rfl)
              obtain ⟨c1, c2, z0, z1, hl1, hl2⟩ := HS2.out wa.drew.drew (bel_drew (bel_drew (Below.refl _ _)))
              obtain ⟨w5, hup, hown5, hg5⟩ := hT13.wts.run_update kpair Tryz.underlying102 (toI n, toI l) true
              rw [Hpk.out] at hup
              have hT5 := hT13.wtsUp hown5 hg5
              have hK13 : Kept w1 wa.drew.drew.drew t.has := ⟨HKa.out.os, HKa.out.tape, HKa.out.output, HKa.out.size, HKa.out.block⟩
              have HK5 := Lib.hid (hK13.only hg5 (Or.inl (Or.inr (Or.inr (Or.inr rfl)))))
              have HT5 := Lib.hid hT5
              have hadd : addW d n (W, c) x = (mput W (toI n, toI l) true, c + 1) := by
                simp only [addW, ← Hl.out]
                rw [if_pos ⟨Ho.out.symm, Hbb.out.symm⟩]
              have Hadd := Lib.hid hadd
              clear hT5 hT13 hown5 hg5 hK13 hl1 hl2 hadd
              go_wp2_with fail
              go_region_law (fail)
              all_goals
                go_wp2_with fail
                refine ⟨⟨k + 1, by omega, by go_num, by rw [Hsucc.out, Hadd.out]; go_num, Lib.hid ?_, HK5⟩, by simp [RowKit.intOf]; omega⟩
                rw [Hsucc.out, Hadd.out]
                exact HT5.out
    · obtain rfl : k = len := by omega
      obtain ⟨sk, hsk⟩ : ∃ sk, sk = addWs d n ws k := ⟨_, rfl⟩
      rw [← hsk] at HT ⊢
      have Hsk := Lib.hid hsk
      clear hsk hwx
      obtain ⟨W, c⟩ := sk
      simp only at HT ⊢
      go_wp2_with fail
      go_loopw [77] (fun i wi => ∃ q : Nat, q ≤ k ∧ i = .int .i64 q ∧ Hid (TabAt wi t ⟨putL d.last n ws q, d.opn, W, d.top⟩) ∧ Hid (Kept w1 wi t.has)) (fun i _ => k - (RowKit.intOf i).toNat)
      case atStart => exact ⟨0, Nat.zero_le _, rfl, HT, HK⟩
      case round =>
        obtain ⟨q, hq, rfl, HTi, HKi⟩ := hrel
        obtain ⟨x0, x1, hwx, -, -⟩ := HX.out wr HKi.out
        clear HT HK
        by_cases hql : q < k
        · obtain ⟨bb, off, x, hA, hbl, hx, y0, y1, y2⟩ := WsAt.cell3 hwx hql
          subst hA
          have hsucc := putL_succ d.last n hx
          generalize putL d.last n ws q = m1 at HTi hsucc
          have Hsucc := Lib.hid hsucc
          clear hsucc hwx hx
          obtain ⟨wc, hwc⟩ : ∃ wc : World, wc = wr.alloc (.cells #[.string x.key, .string x.val, .bool x.drop] 85) := ⟨_, rfl⟩
          have hTc : TabAt wc t ⟨m1, d.opn, W, d.top⟩ := by rw [hwc]; exact HTi.out.alloc _
          have hKc : Kept w1 wc t.has := by rw [hwc]; exact HKi.out.alloc _
          have hzc : wc.heap.size = wr.heap.size + 1 := by rw [hwc]; simp
          have hxc : wc.heap[wr.heap.size]? = some (.cells #[.string x.key, .string x.val, .bool x.drop] 85 (0, 0)) := by rw [hwc]; exact blk_new _ _
          obtain ⟨w5, hup, hown5, hg5⟩ := hTc.drew.last.run_update kstr Tryz.underlying100 x.key n
          have hT5 := hTc.drew.lastUp hown5 hg5
          have hK5 := hKc.drew.only hg5 (Or.inl (Or.inr (Or.inl rfl)))
          have hS : ∀ X, TabAt X t ⟨m1, d.opn, W, d.top⟩ ∨ TabAt X t ⟨mput m1 x.key n, d.opn, W, d.top⟩ → Kept w1 X t.has → X.heap[wr.heap.size]? = some (.cells #[.string x.key, .string x.val, .bool x.drop] 85 (0, 0)) → X.cell? ⟨w.heap.size, 0, none⟩ = some (.int .i64 n) ∧ X.cell? ⟨t.g, 0, none⟩ = some (.map (some t.p)) ∧ X.cell? ⟨wr.heap.size, 0, none⟩ = some (.string x.key) := fun X hTX hKX hbX => by
            have c0 : X.cell? ⟨t.g, 0, none⟩ = some (.map (some t.p)) := by rcases hTX with h | h <;> exact h.cells.1
            obtain ⟨x0, -⟩ := HX.out X hKX
            have z0 := blk_cell hbX 0
            simp only [List.getElem?_toArray, List.getElem?_cons_zero, List.getElem?_cons_succ] at z0
            exact ⟨x0, c0, z0⟩
          have hsr : w.heap.size + 1 ≤ wr.heap.size := by have := (HX.out wr HKi.out).2.2.2.1; have := Hz.out; omega
          obtain ⟨x0, c0, z0⟩ := hS wc (Or.inl hTc) hKc hxc
          have HS0 := Lib.hid (hS wc.drew (Or.inl hTc.drew) hKc.drew hxc)
          have HS5 := Lib.hid (hS w5 (Or.inr hT5) hK5 ((hg5.block wr.heap.size (by show wr.heap.size < wc.heap.size; omega) (by have := hlts; simp; omega)).trans hxc))
          have HT5 := Lib.hid hT5
          have HK5 := Lib.hid hK5
          clear hS hTc hKc hzc hxc hown5 hg5 hT5 hK5
          go_wp2_with fail
          rw [← hwc]
          have Hwc := Lib.hid hwc
          clear hwc
          go_region_held3 (fun X => X.cell? ⟨w.heap.size, 0, none⟩ = some (.int .i64 n) ∧ X.cell? ⟨t.g, 0, none⟩ = some (.map (some t.p)) ∧ X.cell? ⟨wr.heap.size, 0, none⟩ = some (.string x.key))
            (first | exact HS0.out | exact HS5.out)
            (first | fail)
          all_goals try simp only [Act.put, List.getElem_toArray, List.getElem_cons_succ, List.getElem_cons_zero, List.setIfInBounds_toArray, List.set_cons_succ, List.set_cons_zero]
          all_goals
            go_wp2_with fail
            refine ⟨⟨q + 1, by omega, by go_num, Lib.hid ?_, HK5⟩, by simp [RowKit.intOf]; omega⟩
            rw [Hsucc.out]
            exact HT5.out
        · obtain rfl : q = k := by omega
          have hTi := HTi.out
          obtain ⟨-, c1, -, -⟩ := hTi.cells
          obtain ⟨w5, hup, hown5, hg5⟩ := hTi.drew.opn.run_update kint Tryz.underlying101 n (c : Int)
          have hT5 := hTi.drew.opnUp hown5 hg5
          have hK5 := HKi.out.drew.only hg5 (Or.inl (Or.inr (Or.inr (Or.inl rfl))))
          obtain ⟨y0, -⟩ := HX.out w5 hK5
          have k3 := hT5.cells.2.2.2
          have k4 := blk_frozen hT5.cell 3
          have HT5 := Lib.hid hT5
          have HK5 := Lib.hid hK5
          clear hTi hwx hown5 hg5 hT5 hK5
          go_wp2_with fail
          go_region_law (fail)
          all_goals try simp only [Act.put, List.getElem_toArray, List.getElem_cons_succ, List.getElem_cons_zero, List.setIfInBounds_toArray, List.set_cons_succ, List.set_cons_zero]
          all_goals
            go_wp2_with fail
            go_ret2
            have e1 : ws.length = q := hlen.out
            unfold AddPost
            rw [e1, ← Hsk.out]
            have hT5 := HT5.out
            refine ⟨rfl, ⟨by simpa using blk_set hT5.cell 3 (.int .i64 n), hT5.last.setCell _ _ (Ne.symm hT5.gp), hT5.opn.setCell _ _ (Ne.symm hT5.gq), hT5.wts.setCell _ _ (Ne.symm hT5.gr), hT5.pq, hT5.pr, hT5.qr⟩, ?_⟩
            exact (HX.out _ HK5.out).2.2.2.2.setCell (Or.inl (Or.inl rfl)) _
end
end Go.Proofs.YtcjmppjppmiggaaGreat

/- Texts put into one by pack.py: MapEnt MapRng Rfn ItA ItB ItC SrtK ItS. -/
import Derived.Sort.MapsRangeIn
import Derived.RangeFuncLeaves
import Derived.RangeFuncSeq
import Derived.Lib.Hide
import Derived.RangeFuncCalls
import Derived.Shelf.Abstract
import Derived.Shelf.RegionOpen
import Derived.WalkKit
import Derived.OwnWalkIn
import Derived.TacticsInMore
import Derived.LoopNIn
import Derived.LoopIn
import Derived.Shelf.SlSortCmp.InsertionK
import Derived.Shelf.SlSortCmp.NoneTotal
import Derived.Test.YtnodjlgihhinpaaDoorMapKit
import Derived.Test.YtnodjlgihhinpaaDoorBase
import Derived.Test.YtnodjlgihhinpaaDoorSt
import Derived.Test.YtnodjlgihhinpaaDoorOwn
import Derived.Test.YtnodjlgihhinpaaDoorLysortK
/- m[k] = f(m[k]): an entry looked up (made, if it lacks) and stored in. Nothing of a program. -/
namespace Go.Proofs.YtnodjlgihhinpaaDoor
open Go.RowKit
set_option linter.unusedVariables false
set_option linter.unusedSimpArgs false
section
variable {K : Type} [DecidableEq K] {P : Program} {kt et t : TypeId} {enc : K → Value} {z : Value} {w : World} {b : Nat} {m : List (K × Value)}
def EsIs (enc : K → Value) (es : Array MapEntry) (clock : Nat) (m : List (K × Value)) : Prop :=
  es.toList.map (fun e => (e.key, e.val)) = m.map (fun x => (enc x.1, x.2)) ∧ (m.map (·.1)).Nodup ∧ (es.toList.map (·.born)).Nodup ∧ ∀ e ∈ es.toList, e.born < clock
theorem EsIs.modi {es : Array MapEntry} {clock : Nat} (h : EsIs enc es clock m) {i : Nat} {a : K} {u : Value} (hmk : m[i]? = some (a, u)) (v : Value) :
    EsIs enc (es.modify i fun e => { e with key := enc a, val := v }) clock (mput m a v) := by
  obtain ⟨hm, hn, hbn, hbl⟩ := h
  have hlen : es.toList.length = m.length := by have := congrArg List.length hm; simpa using this
  have hik : i < m.length := (List.getElem?_eq_some_iff.1 hmk).1
  have hie : i < es.size := by have := hlen; simp only [Array.length_toList] at this; omega
  have h0 : mget m a = some u := mget_of_mem hn (List.mem_iff_getElem?.2 ⟨i, hmk⟩)
  refine ⟨?_, nodup_put m a v hn, ?_, ?_⟩
  · unfold mput
    rw [h0]
    simp only [Option.isSome_some, if_true]
    apply List.ext_getElem?
    intro j
    have h1 := congrArg (fun l => l[j]?) hm
    simp only [List.getElem?_map, Array.getElem?_toList, Array.getElem?_modify] at h1 ⊢
    by_cases hj : i = j
    · subst hj
      rw [hmk, Array.getElem?_eq_getElem hie]
      simp
    · rw [if_neg hj]
      rw [h1]
      cases hmj : m[j]? with
      | none => rfl
      | some y =>
        have hy : ¬ y.1 = a := by
          intro e
          apply hj
          have hjl : j < m.length := (List.getElem?_eq_some_iff.1 hmj).1
          have e1 : (m.map (·.1))[i]'(by simpa using hik) = (m.map (·.1))[j]'(by simpa using hjl) := by
            have a1 := (List.getElem?_eq_some_iff.1 hmk).2
            have a2 := (List.getElem?_eq_some_iff.1 hmj).2
            simp [a1, a2, e]
          exact (List.getElem_inj hn).1 e1
        simp [hy]
  · have : (es.modify i fun e => { e with key := enc a, val := v }).toList.map (·.born) = es.toList.map (·.born) := by
      apply List.ext_getElem?
      intro j
      simp only [List.getElem?_map, Array.getElem?_toList, Array.getElem?_modify]
      by_cases hj : i = j
      · subst hj; cases es[i]? <;> simp
      · simp [hj]
    rw [this]; exact hbn
  · intro e he
    obtain ⟨j, hj⟩ := List.mem_iff_getElem?.1 he
    simp only [Array.getElem?_toList, Array.getElem?_modify] at hj
    by_cases hij : i = j
    · subst hij
      rw [if_pos rfl, Array.getElem?_eq_getElem hie] at hj
      simp at hj
      subst hj
      exact hbl es[i] (by simp)
    · rw [if_neg hij] at hj
      exact hbl e (List.mem_iff_getElem?.2 ⟨j, by simpa using hj⟩)
theorem EsIs.push {es : Array MapEntry} {clock : Nat} (h : EsIs enc es clock m) {a : K} (h0 : mget m a = none) (v : Value) :
    EsIs enc (es.push { key := enc a, val := v, born := clock }) (clock + 1) (mput m a v) := by
  obtain ⟨hm, hn, hbn, hbl⟩ := h
  refine ⟨?_, nodup_put m a v hn, ?_, ?_⟩
  · simp [mput, h0, hm]
  · simp only [Array.toList_push, List.map_append, List.map_cons, List.map_nil, List.nodup_append]
    refine ⟨hbn, by simp, ?_⟩
    intro x hx y hy e
    simp at hy
    obtain ⟨q, hq, hq2⟩ := List.mem_map.1 hx
    have := hbl q hq
    omega
  · intro e he
    simp only [Array.toList_push, List.mem_append, List.mem_singleton] at he
    rcases he with he | rfl
    · have := hbl e he; omega
    · simp
/-- The map in block b has an entry for a, made at st. -/
def EntAt (enc : K → Value) (w : World) (b : Nat) (m : List (K × Value)) (a : K) (st : Nat) : Prop :=
  ∃ (es : Array MapEntry) (clock i : Nat) (u : Value), w.heap[b]? = some (.map es clock) ∧ EsIs enc es clock m ∧ m[i]? = some (a, u) ∧ (es[i]?).map (·.born) = some st
omit [DecidableEq K] in
theorem EntAt.is {a : K} {st : Nat} (h : EntAt enc w b m a st) : MapIs enc w b m := by
  obtain ⟨es, clock, i, u, hb, ⟨h1, h2, h3, h4⟩, _⟩ := h
  exact ⟨es, clock, hb, h1, h2, h3, h4⟩
omit [DecidableEq K] in
theorem EntAt.chg {w' : World} {a : K} {st : Nat} {F : List Nat} (h : EntAt enc w b m a st) (hc : Chg F w w') (hF : b ∉ F) : EntAt enc w' b m a st := by
  obtain ⟨es, clock, i, u, hb, h⟩ := h
  exact ⟨es, clock, i, u, hc.at hb hF, h⟩
theorem EntAt.store {a : K} {st : Nat} (h : EntAt enc w b m a st) (v : Value) :
    ∃ o, (Instr.entryStore t (.map (some b)) (.int .i64 (st : Int)) v).run P w = .ok () (setMap w b o) ∧ MapIs enc (setMap w b o) b (mput m a v) := by
  obtain ⟨es, clock, i, u, hb, hE, hmk, hst⟩ := h
  have hget : (getObj b).run P w = .ok (.map es clock) w := by unfold getObj; simp only [Sem.run, hb]
  have hset : ∀ o, (setObj b o).run P w = .ok () (setMap w b o) := by intro o; unfold setObj; simp only [Sem.run, hb]; rfl
  have hlen : es.toList.length = m.length := by have := congrArg List.length hE.1; simpa using this
  have hik : i < m.length := (List.getElem?_eq_some_iff.1 hmk).1
  have hie : i < es.size := by have := hlen; simp only [Array.length_toList] at this; omega
  have hkey : (es[i]'hie).key = enc a := by
    have h1 := congrArg (fun l => l[i]?) hE.1
    simp only [List.getElem?_map, hmk, Option.map_some, Array.getElem?_toList, Array.getElem?_eq_getElem hie, Option.some.injEq, Prod.mk.injEq] at h1
    exact h1.1
  have hborn : (es[i]'hie).born = st := by rw [Array.getElem?_eq_getElem hie] at hst; simpa using hst
  have hfi : es.findIdx? (fun e => (e.born : Int) == (st : Int)) = some i := by
    rw [Array.findIdx?_eq_some_iff_getElem]
    refine ⟨hie, by simp [hborn], ?_⟩
    intro j hj
    have hjs : j < es.size := by omega
    simp only [beq_iff_eq, Int.natCast_inj, Bool.not_eq_true]
    intro e
    have hn := hE.2.2.1
    have e1 : (es.toList.map (·.born))[j]'(by simpa using hjs) = (es.toList.map (·.born))[i]'(by simpa using hie) := by simp [e, hborn]
    have := (List.getElem_inj hn).1 e1
    omega
  have hmo : (es.modify i fun e => { e with val := v }) = es.modify i fun e => { e with key := enc a, val := v } := by
    apply Array.ext_getElem?
    intro j
    simp only [Array.getElem?_modify]
    by_cases hj : i = j
    · subst hj
      rw [Array.getElem?_eq_getElem hie]
      simp [hkey]
    · simp [hj]
  have hM := hE.modi hmk v
  refine ⟨.map (es.modify i fun e => { e with key := enc a, val := v }) clock, ?_, ?_⟩
  · unfold Instr.entryStore
    simp only [Sem.run_bind, hget, Result.andThen_ok]
    have : (asInt (.int .i64 (st : Int))).run P w = .ok (st : Int) w := rfl
    simp only [this, Result.andThen_ok, hfi, hmo, hset]
  · exact ⟨_, _, setMap_at _ hb, hM.1, hM.2.1, hM.2.2.1, hM.2.2.2⟩
theorem MapIs.ent (h : MapIs enc w b m) (E : KeyEnc P kt enc) (ht : P.underlying t = some (.map kt et)) (hz : ∀ w, (zeroValue et).run P w = .ok z w) (a : K) :
    ∃ o st, (Instr.mapEntry t (.map (some b)) (enc a)).run P w = .ok (.tuple #[(mget m a).getD z, .int .i64 (st : Nat)]) (setMap w b o) ∧ EntAt enc (setMap w b o) b (mput m a ((mget m a).getD z)) a st := by
  obtain ⟨es, clock, hb, hE⟩ := h
  have hE : EsIs enc es clock m := hE
  have hm := hE.1
  have hget : (getObj b).run P w = .ok (.map es clock) w := by unfold getObj; simp only [Sem.run, hb]
  have hset : ∀ o, (setObj b o).run P w = .ok () (setMap w b o) := by intro o; unfold setObj; simp only [Sem.run, hb]; rfl
  have hlen : es.toList.length = m.length := by have := congrArg List.length hm; simpa using this
  cases hf : findIn a m 0 with
  | none =>
    have h0 : mget m a = none := by rw [← findIn_get a m 0, hf]; rfl
    refine ⟨.map (es.push { key := enc a, val := z, born := clock }) (clock + 1), clock, ?_, ?_⟩
    · unfold Instr.mapEntry
      simp only [Sem.run_bind, run_underlying ht w, Result.andThen_ok, hget, E.chk, run_findKey E a w es.toList m hm, hf, hz, hset, h0, Option.getD_none, Sem.run_pure]
      rfl
    · rw [h0, Option.getD_none]
      refine ⟨_, _, m.length, z, setMap_at _ hb, hE.push h0 z, ?_, ?_⟩
      · simp [mput, h0]
      · rw [← hlen, Array.length_toList]
        simp
  | some x =>
    obtain ⟨i, u⟩ := x
    obtain ⟨k, hk, hmk⟩ := findIn_some a m 0 i u hf
    have hk : i = k := by omega
    subst hk
    have hik : i < m.length := (List.getElem?_eq_some_iff.1 hmk).1
    have hie : i < es.size := by have := hlen; simp only [Array.length_toList] at this; omega
    have hekey : (es[i]'hie).key = enc a ∧ (es[i]'hie).val = u := by
      have h1 := congrArg (fun l => l[i]?) hm
      simp only [List.getElem?_map, hmk, Option.map_some, Array.getElem?_toList, Array.getElem?_eq_getElem hie, Option.some.injEq, Prod.mk.injEq] at h1
      exact h1
    have h0 : mget m a = some u := by rw [← findIn_get a m 0, hf]; rfl
    have hst : ∀ x, (Instr.keyThatStays (((es[i]?).map (·.key)).getD (enc a)) (enc a)).run P x = .ok (enc a) x := by
      intro x
      rw [Array.getElem?_eq_getElem hie]
      simp only [Option.map_some, Option.getD_some, hekey.1]
      unfold Instr.keyThatStays
      simp [E.bits a]
    have hmo : (es.modify i fun e => { e with key := enc a }) = es.modify i fun e => { e with key := enc a, val := u } := by
      apply Array.ext_getElem?
      intro j
      simp only [Array.getElem?_modify]
      by_cases hj : i = j
      · subst hj
        rw [Array.getElem?_eq_getElem hie]
        simp [hekey.2]
      · simp [hj]
    refine ⟨.map (es.modify i fun e => { e with key := enc a, val := u }) clock, (es[i]'hie).born, ?_, ?_⟩
    · unfold Instr.mapEntry
      simp only [Sem.run_bind, run_underlying ht w, Result.andThen_ok, hget, E.chk, run_findKey E a w es.toList m hm, hf, hst, hmo, hset, h0, Option.getD_some, Sem.run_pure]
      rw [Array.getElem?_eq_getElem hie]
      rfl
    · rw [h0, Option.getD_some]
      refine ⟨_, _, i, u, setMap_at _ hb, hE.modi hmk u, ?_, ?_⟩
      · unfold mput
        rw [h0]
        simp only [Option.isSome_some, if_true, List.getElem?_map, hmk, Option.map_some]
      · rw [Array.getElem?_modify, if_pos rfl, Array.getElem?_eq_getElem hie]
        rfl
end
end Go.Proofs.YtnodjlgihhinpaaDoor

/- A range over a map, under way: which keys have come, which are still to come. Nothing of a program. -/
namespace Go.Proofs.YtnodjlgihhinpaaDoor
open Go.RowKit
set_option linter.unusedVariables false
set_option linter.unusedSimpArgs false

theorem filter_born {e : MapEntry} : ∀ {l : List MapEntry} {i : Nat}, (l.map (·.born)).Nodup → l[i]? = some e → l.filter (fun x => !(x.born == e.born)) = l.eraseIdx i := by
  intro l
  induction l with
  | nil => intro i _ h; simp at h
  | cons x l ih =>
    intro i hn h
    simp only [List.map_cons, List.nodup_cons] at hn
    cases i with
    | zero =>
      simp at h
      subst h
      rw [List.filter_cons_of_neg (by simp), List.eraseIdx_cons_zero, List.filter_eq_self]
      intro y hy
      simp only [Bool.not_eq_true', beq_eq_false_iff_ne]
      intro e1
      exact hn.1 (List.mem_map.2 ⟨y, hy, e1⟩)
    | succ i =>
      simp at h
      have hx : ¬ x.born = e.born := fun e1 => hn.1 (List.mem_map.2 ⟨e, List.mem_of_getElem? h, e1.symm⟩)
      rw [List.filter_cons_of_pos (by simp [hx]), List.eraseIdx_cons_succ, ih hn.2 h]

theorem erase_perm {α : Type} : ∀ {l : List α} {i : Nat} (h : i < l.length), (l[i] :: l.eraseIdx i).Perm l := by
  intro l
  induction l with
  | nil => intro i h; simp at h
  | cons x l ih =>
    intro i h
    cases i with
    | zero => simp
    | succ i =>
      have := ih (i := i) (by simpa using h)
      simp only [List.getElem_cons_succ, List.eraseIdx_cons_succ]
      exact (List.Perm.swap _ _ _).trans (List.Perm.cons x this)

section
variable {K : Type} [DecidableEq K] {P : Program} {kt et t : TypeId} {enc : K → Value} {w : World} {b r : Nat} {m : List (K × Value)} {pre : List K} {cnt : Nat}
/-- The range in block r over the map m in block b: pre has come, cnt keys are still to come. -/
def RngIs (enc : K → Value) (w : World) (b r : Nat) (m : List (K × Value)) (pre : List K) (cnt : Nat) : Prop :=
  ∃ es clock since seen c0, ∃ left : List K, w.heap[b]? = some (.map es clock) ∧ EsIs enc es clock m ∧ w.heap[r]? = some (.mapIter (some b) since seen c0) ∧ (∀ e ∈ es.toList, e.born < since) ∧ since ≤ c0 ∧ since ≤ clock ∧
    (leftOf es seen).toList.map (·.key) = left.map enc ∧ left.length = cnt ∧ (pre ++ left).Perm (m.map (·.1))
/-- How many are still to come. -/
def rngLeft (w : World) (b r : Nat) : Nat := w.rangeLeft b r
omit [DecidableEq K] in
theorem RngIs.left (h : RngIs enc w b r m pre cnt) : rngLeft w b r = cnt := by
  obtain ⟨es, clock, since, seen, c0, left, hb, hE, hr, h1, h2, h2', h3, h4, h5⟩ := h
  unfold rngLeft World.rangeLeft
  rw [hb, hr]
  have := congrArg List.length h3
  simp at this
  simpa [← h4] using this
omit [DecidableEq K] in
theorem RngIs.map (h : RngIs enc w b r m pre cnt) : MapIs enc w b m := by
  obtain ⟨es, clock, since, seen, c0, left, hb, ⟨q1, q2, q3, q4⟩, hr, h1, h2, h3, h4, h5⟩ := h
  exact ⟨es, clock, hb, q1, q2, q3, q4⟩
omit [DecidableEq K] in
theorem RngIs.rest (h : RngIs enc w b r m pre cnt) : ∃ rest, (pre ++ rest).Perm (m.map (·.1)) := by
  obtain ⟨es, clock, since, seen, c0, left, hb, _, hr, h1, h2, h3, h4, h5, h6⟩ := h
  exact ⟨left, h6⟩
omit [DecidableEq K] in
theorem RngIs.chg {w' : World} {F : List Nat} (h : RngIs enc w b r m pre cnt) (hc : Chg F w w') (hb : b ∉ F) (hr : r ∉ F) : RngIs enc w' b r m pre cnt := by
  obtain ⟨es, clock, since, seen, c0, left, hb', hE, hr', h⟩ := h
  exact ⟨es, clock, since, seen, c0, left, hc.at hb' hb, hE, hc.at hr' hr, h⟩
omit [DecidableEq K] in
theorem RngIs.lt (h : RngIs enc w b r m pre cnt) : r < w.heap.size ∧ b < w.heap.size := by
  obtain ⟨es, clock, since, seen, c0, left, hb', hE, hr', h⟩ := h
  exact ⟨blk_lt hr', blk_lt hb'⟩
omit [DecidableEq K] in
theorem RngIs.ne (h : RngIs enc w b r m pre cnt) : r ≠ b := by
  obtain ⟨es, clock, since, seen, c0, left, hb', hE, hr', h⟩ := h
  intro e
  rw [e, hb'] at hr'
  cases hr'
omit [DecidableEq K] in
theorem MapIs.keys (h : MapIs enc w b m) : (m.map (·.1)).Nodup := by
  obtain ⟨es, clock, hb, q1, q2, q3, q4⟩ := h; exact q2
omit [DecidableEq K] in
theorem MapIs.range (h : MapIs enc w b m) (ht : P.underlying t = some (.map kt et)) :
    ∃ w', (Instr.range t (.map (some b))).run P w = .ok (.pointer (some ⟨w.heap.size, 0, none⟩)) w' ∧ RngIs enc w' b w.heap.size m [] m.length ∧ Chg [] w w' ∧ w'.heap.size = w.heap.size + 1 := by
  obtain ⟨es, clock, hb, hE⟩ := h
  have hl : (leftOf es #[]) = es := by unfold leftOf; simp
  refine ⟨_, run_range_map w t kt et b es clock ht hb, ⟨es, clock, clock, #[], clock, m.map (·.1), blk_alloc hb _, hE, blk_new w _, hE.2.2.2, Nat.le_refl _, Nat.le_refl _, ?_, by simp, by simp⟩, (Chg.refl _ _).alloc _, by simp⟩
  rw [hl]
  have := congrArg (List.map Prod.fst) hE.1
  rw [List.map_map, List.map_map] at this
  rw [List.map_map]
  exact this
theorem RngIs.next (h : RngIs enc w b r m pre cnt) (E : KeyEnc P kt enc) (ty : TypeId) :
    (cnt = 0 ∧ pre.Perm (m.map (·.1)) ∧ (Instr.next (.pointer (some ⟨r, 0, none⟩)) false ty).run P w = .ok (.tuple #[.bool false]) w) ∨
    ∃ k v w', (k, v) ∈ m ∧ k ∉ pre ∧ (Instr.next (.pointer (some ⟨r, 0, none⟩)) false ty).run P w = .ok (.tuple #[.bool true, enc k, v]) w' ∧ RngIs enc w' b r m (pre ++ [k]) (cnt - 1) ∧ 0 < cnt ∧ Chg [r] w w' ∧ w'.heap.size = w.heap.size ∧
      (Instr.entry (.pointer (some ⟨r, 0, none⟩))).run P w' = .ok (.tuple #[enc k, v]) w' := by
  have hne := h.ne
  obtain ⟨es, clock, since, seen, c0, left, hb, hE, hr, hold, hsc, hsk, hleft, hlen, hperm⟩ := h
  rcases run_next_at (P := P) w ty r b since c0 seen es clock hr hb hold hsc with ⟨h0, hrun⟩ | ⟨e, he, w1, hw1, hrun⟩
  · left
    have h1 : (leftOf es seen).toList = [] := List.eq_nil_of_length_eq_zero (by simpa using h0)
    rw [h1] at hleft
    have h2 : left = [] := by simpa using hleft.symm
    subst h2
    exact ⟨by simpa using hlen.symm, by simpa using hperm, hrun⟩
  · right
    obtain ⟨i, hi⟩ := List.mem_iff_getElem?.1 he
    have hii : i < (leftOf es seen).toList.length := (List.getElem?_eq_some_iff.1 hi).1
    have hlL : (leftOf es seen).toList.length = left.length := by have := congrArg List.length hleft; simpa using this
    have hil : i < left.length := by omega
    have hkey : e.key = enc left[i] := by
      have := congrArg (fun l => l[i]?) hleft
      simp only [List.getElem?_map, hi, Option.map_some, List.getElem?_eq_getElem hil] at this
      exact Option.some.inj this
    have hem := (mem_left he).1
    have hmm : (left[i], e.val) ∈ m := by
      have : (e.key, e.val) ∈ m.map (fun x => (enc x.1, x.2)) := by rw [← hE.1]; exact List.mem_map.2 ⟨e, hem, rfl⟩
      obtain ⟨x, hx, hxe⟩ := List.mem_map.1 this
      injection hxe with e1 e2
      have := E.inj _ _ (e1.trans hkey)
      rw [← this, ← e2]; exact hx
    have hnd : ((leftOf es seen).toList.map (·.born)).Nodup := by
      refine List.Sublist.nodup (List.Sublist.map _ ?_) hE.2.2.1
      unfold leftOf
      rw [Array.toList_filter]
      exact List.filter_sublist
    have hl2 : (leftOf es (seen.push e.born)).toList = (leftOf es seen).toList.eraseIdx i := by
      rw [← filter_born hnd hi]
      unfold leftOf
      rw [Array.toList_filter, Array.toList_filter, List.filter_filter]
      apply List.filter_congr
      intro x _
      rw [contains_push, Bool.not_or, Bool.and_comm]
    have hpp : (pre ++ [left[i]] ++ left.eraseIdx i).Perm (m.map (·.1)) := by
      refine List.Perm.trans ?_ hperm
      rw [List.append_assoc]
      exact List.Perm.append_left pre (erase_perm hil)
    have hnp : left[i] ∉ pre := by
      have hN : (pre ++ [left[i]] ++ left.eraseIdx i).Nodup := (hpp.nodup_iff).2 hE.2.1
      rw [List.append_assoc] at hN
      intro hm
      exact (List.nodup_append.1 hN).2.2 _ hm _ (by simp) rfl
    have hr1 : w1.heap[r]? = some (.mapIter (some b) since seen c0) := by rcases hw1 with rfl | rfl <;> exact hr
    have hb1 : w1.heap[b]? = some (.map es clock) := by rcases hw1 with rfl | rfl <;> exact hb
    have hc1 : Chg [r] w w1 := by
      rcases hw1 with rfl | rfl
      · exact Chg.refl _ _
      · exact (Chg.refl _ _).drew
    have hs1 : w1.heap.size = w.heap.size := by rcases hw1 with rfl | rfl <;> rfl
    have hb2 : (setMap w1 r (.mapIter (some b) since (seen.push e.born) clock)).heap[b]? = some (.map es clock) := (setMap_chg w1 r _).at hb1 (by simp; exact fun q => hne q.symm)
    have hr2 : (setMap w1 r (.mapIter (some b) since (seen.push e.born) clock)).heap[r]? = some (.mapIter (some b) since (seen.push e.born) clock) := setMap_at _ hr1
    refine ⟨left[i], e.val, setMap w1 r (.mapIter (some b) since (seen.push e.born) clock), hmm, hnp, by rw [← hkey]; exact hrun, ⟨es, clock, since, seen.push e.born, clock, left.eraseIdx i, hb2, hE, hr2, hold, hsk, hsk, ?_, ?_, hpp⟩, by omega, hc1.trans (setMap_chg _ _ _) (fun x hx => .inl hx), by simp [setMap, hs1], ?_⟩
    · rw [hl2, map_eraseIdx', hleft, ← map_eraseIdx']
    · rw [List.length_eraseIdx_of_lt hil]; omega
    · rw [← hkey]
      exact run_entry_at (P := P) _ r b since seen es clock e hr2 hb2 hem hE.2.2.1
end

section
variable {K : Type} [DecidableEq K] {P : Program} {kt et t : TypeId} {enc : K → Value} {b r : Nat} {m : List (K × Value)} {pre : List K} {cnt : Nat}
variable {F : Fence} {n : Nat} (w : World) {ops : Array Oper} {rest : List Oper} {o : Oper} {a : Act} {Q : Exit → Act → World → Prop}
omit [DecidableEq K] in
theorem wpIn_mrange (hg : o.guard = none) (x : Operand) (hop : o.op = Op.range t x) (ht : P.underlying t = some (.map kt et)) (hx : a.eval x = .map (some b)) (h : MapIs enc w b m)
    (hK : ∀ w', RngIs enc w' b w.heap.size m [] m.length → Chg [] w w' → w'.heap.size = w.heap.size + 1 → wpListIn F n P ops Q rest (a.put o.dst (.pointer (some ⟨w.heap.size, 0, none⟩))) w') :
    wpListIn F n P ops Q (o :: rest) a w := by
  refine wpListIn_plain hg fun K' hK' => ?_
  obtain ⟨w', hrun, r1, r2, r3⟩ := h.range (P := P) ht
  unfold Oper.wpIn
  refine ⟨by simp [Oper.about, hop], ?_⟩
  rw [Oper.semAt_plain F _ _ (by rw [hop]; intro c hc'; cases hc')]
  simp [execOp, hop, hx, hrun, Result.andThen]
  exact hK' _ _ (hK w' r1 r2 r3)
theorem wpIn_mnext (hg : o.guard = none) (it : Operand) (hop : o.op = Op.next it false) (E : KeyEnc P kt enc) (hit : a.eval it = .pointer (some ⟨r, 0, none⟩)) (h : RngIs enc w b r m pre cnt)
    (hDone : cnt = 0 → pre.Perm (m.map (·.1)) → wpListIn F n P ops Q rest (a.put o.dst (.tuple #[.bool false])) w)
    (hMore : ∀ k v w', (k, v) ∈ m → k ∉ pre → RngIs enc w' b r m (pre ++ [k]) (cnt - 1) → 0 < cnt → Chg [r] w w' → w'.heap.size = w.heap.size →
      (Instr.entry (.pointer (some ⟨r, 0, none⟩))).run P w' = .ok (.tuple #[enc k, v]) w' → wpListIn F n P ops Q rest (a.put o.dst (.tuple #[.bool true, enc k, v])) w') :
    wpListIn F n P ops Q (o :: rest) a w := by
  refine wpListIn_plain hg fun K' hK' => ?_
  unfold Oper.wpIn
  refine ⟨by simp [Oper.about, hop], ?_⟩
  rw [Oper.semAt_plain F _ _ (by rw [hop]; intro c hc'; cases hc')]
  rcases h.next E o.type with ⟨h0, hp, hrun⟩ | ⟨k, v, w', q1, q2, hrun, q3, q4, q5, q6, q7⟩
  · simp [execOp, hop, hit, hrun, Result.andThen]
    exact hK' _ _ (hDone h0 hp)
  · simp [execOp, hop, hit, hrun, Result.andThen]
    exact hK' _ _ (hMore k v w' q1 q2 q3 q4 q5 q6 q7)
omit [DecidableEq K] in
theorem wp_mrange (hg : o.guard = none) (x : Operand) (hop : o.op = Op.range t x) (ht : P.underlying t = some (.map kt et)) (hx : a.eval x = .map (some b)) (h : MapIs enc w b m)
    (hK : ∀ w', RngIs enc w' b w.heap.size m [] m.length → Chg [] w w' → w'.heap.size = w.heap.size + 1 → wpList P ops Q rest (a.put o.dst (.pointer (some ⟨w.heap.size, 0, none⟩))) w') :
    wpList P ops Q (o :: rest) a w := by
  refine wpList_plain hg fun K' hK' => ?_
  obtain ⟨w', hrun, r1, r2, r3⟩ := h.range (P := P) ht
  unfold Oper.wp
  simp [execOp, hop, hx, hrun, Result.andThen]
  exact hK' _ _ (hK w' r1 r2 r3)
theorem wp_mnext (hg : o.guard = none) (it : Operand) (hop : o.op = Op.next it false) (E : KeyEnc P kt enc) (hit : a.eval it = .pointer (some ⟨r, 0, none⟩)) (h : RngIs enc w b r m pre cnt)
    (hDone : cnt = 0 → pre.Perm (m.map (·.1)) → wpList P ops Q rest (a.put o.dst (.tuple #[.bool false])) w)
    (hMore : ∀ k v w', (k, v) ∈ m → k ∉ pre → RngIs enc w' b r m (pre ++ [k]) (cnt - 1) → 0 < cnt → Chg [r] w w' → w'.heap.size = w.heap.size →
      (Instr.entry (.pointer (some ⟨r, 0, none⟩))).run P w' = .ok (.tuple #[enc k, v]) w' → wpList P ops Q rest (a.put o.dst (.tuple #[.bool true, enc k, v])) w') :
    wpList P ops Q (o :: rest) a w := by
  refine wpList_plain hg fun K' hK' => ?_
  unfold Oper.wp
  rcases h.next E o.type with ⟨h0, hp, hrun⟩ | ⟨k, v, w', q1, q2, hrun, q3, q4, q5, q6, q7⟩
  · simp [execOp, hop, hit, hrun, Result.andThen]
    exact hK' _ _ (hDone h0 hp)
  · simp [execOp, hop, hit, hrun, Result.andThen]
    exact hK' _ _ (hMore k v w' q1 q2 q3 q4 q5 q6 q7)
end
end Go.Proofs.YtnodjlgihhinpaaDoor

/- A range over a function: what an iterator and its rounds promise each other, told by blocks; the statement's law. Nothing of a program. -/
namespace Go.Proofs.YtnodjlgihhinpaaDoor
open Go.RowKit
set_option linter.unusedVariables false
set_option linter.unusedSimpArgs false

section
variable {α : Type}
/-- What is told of the blocks D stays while others, from s on, change. -/
def Stays (s : Nat) (J : List α → List Nat → World → Prop) : Prop :=
  ∀ pre D W W' F, J pre D W → Chg F W W' → (∀ k ∈ F, k ∉ D ∧ s ≤ k) → J pre D W'
/-- The blocks D' behind a step from W to W' that had D: those of D, and new ones. -/
def Dok (D : List Nat) (W : World) (D' : List Nat) (W' : World) : Prop := ∀ k ∈ D', k < W'.heap.size ∧ (k ∈ D ∨ W.heap.size ≤ k)
/-- How a round ends. -/
def RoundP (J Jx : List α → List Nat → World → Prop) (xs : List α) (D : List Nat) (W : World) (e : Ending) (W' : World) : Prop :=
  ∃ D', Dok D W D' W' ∧ Chg D W W' ∧ ((e = .returned (.bool true) ∧ J xs D' W') ∨ (e = .returned (.bool false) ∧ Jx xs D' W'))
/-- How an iterator ends. -/
def SeqP (S Sp : List α → Prop) (J Jx : List α → List Nat → World → Prop) (e : Ending) (W' : World) : Prop :=
  (∃ v, e = .returned v) ∧ ((∃ xs D', S xs ∧ J xs D' W') ∨ (∃ pre D', Sp pre ∧ Jx pre D' W'))
/-- The contract of an iterator: in every world that has nothing turned since w. -/
def Seq (P : Program) (g : Nat) (lb : Array Value) (encs : α → Array Value) (S Sp : List α → Prop) (foot : List Nat) (w : World) : Prop :=
  ∀ (l : Nat) (J Jx : List α → List Nat → World → Prop) (W : World) (D : List Nat), Chg [] w W → Stays W.heap.size J → Stays W.heap.size Jx →
    (∀ pre x W1 D1, J pre D1 W1 → (∀ k ∈ D1, k < W1.heap.size) → Sp (pre ++ [x]) → YieldAt Fence.wide 0 P l (encs x) W1 (RoundP J Jx (pre ++ [x]) D1 W1)) →
    J [] D W → (∀ k ∈ D, k < W.heap.size ∧ k ∉ foot) →
    CallsIn Fence.wide 0 P g (#[.func (.yield l) #[] #[]] ++ lb) W (SeqP S Sp J Jx)
theorem Seq.later {P : Program} {g : Nat} {lb : Array Value} {encs : α → Array Value} {S Sp : List α → Prop} {foot : List Nat} {w w' : World} (h : Seq P g lb encs S Sp foot w) (hc : Chg [] w w') : Seq P g lb encs S Sp foot w' :=
  fun l J Jx W D hW => h l J Jx W D (hc.nil_trans hW)
/-- How the body of a round may be left. -/
def BodyP (I : List α → List Nat → World → Prop) (Ix : Code → List α → List Nat → World → Prop) (xs : List α) (D : List Nat) (W : World) : Exit → Act → World → Prop
  | .normal, _, W' => ∃ D', Dok D W D' W' ∧ Chg D W W' ∧ I xs D' W'
  | .ret, _, W' => ∃ D', Dok D W D' W' ∧ Chg D W W' ∧ Ix .ret xs D' W'
  | .exit id, _, W' => ∃ D', Dok D W D' W' ∧ Chg D W W' ∧ Ix (.exit id) xs D' W'
  | .goto t, _, W' => ∃ D', Dok D W D' W' ∧ Chg D W W' ∧ Ix (.goto t) xs D' W'
  | .panic _, _, _ => False
  | .outgrown, _, _ => False

theorem chg_put (W : World) (l : Nat) (o : Obj) : Chg [l] W (W.putObj l o) :=
  ⟨rfl, rfl, rfl, by simp, fun k _ hk => World.putObj_heap_other (fun e => hk (by simp [e]))⟩

variable {P : Program}
theorem wpIn_range {g : Operand} {ps : Array Tmp} {assign body : Code} {Q : Exit → Act → World → Prop} {a : Act} {w : World}
    {gf : Nat} {lb : Array Value} (hg : a.eval g = .func (.func gf) #[] lb) (eg : ∀ args w, (callFunc gf args).run P w = .ok (.enter gf args) w)
    {encs : α → Array Value} {S Sp : List α → Prop} {foot : List Nat} {w0 : World} (hseq : Seq P gf lb encs S Sp foot w0) (hb0 : Chg [] w0 w) (hps : ∀ x, (encs x).size = ps.size)
    (I : List α → List Nat → World → Prop) (Ix : Code → List α → List Nat → World → Prop) (D0 : List Nat) (hD0 : ∀ k ∈ D0, k < w.heap.size ∧ k ∉ foot) (hft : ∀ k ∈ foot, k < w.heap.size)
    (hI : Stays w.heap.size I) (hIx : ∀ c, Stays w.heap.size (Ix c)) (h0 : I [] D0 w)
    (Ax : α → Act → List α → List Nat → World → Prop) (hAx : ∀ x a', Stays w.heap.size (Ax x a'))
    (hassign : ∀ (l : Nat) (pre : List α) (x : α) (W : World) (D1 : List Nat) (K : Act → World → Prop), I pre D1 W → (∀ k ∈ D1, k < W.heap.size) → Sp (pre ++ [x]) →
      (∀ a' W' D2, Dok D1 W D2 W' → Chg D1 W W' → Ax x a' pre D2 W' → K a' W') →
      assign.wpIn (Fence.wide.inRound l) 0 P (Exit.then K (fun _ _ _ => False)) { tmps := (ps.zip (encs x)).foldl (fun t (p, v) => t.setIfInBounds p v) a.tmps, defers := [] } W)
    (hbody : ∀ (l : Nat) (pre : List α) (x : α) (a' : Act) (W : World) (D1 : List Nat), Ax x a' pre D1 W → (∀ k ∈ D1, k < W.heap.size) → Sp (pre ++ [x]) → body.wpIn (Fence.wide.inRound l) 0 P (BodyP I Ix (pre ++ [x]) D1 W) a' W)
    (hdone : ∀ (D : Nat) (xs : List α) (D1 : List Nat) (W : World), w.heap.size ≤ D → D ∉ D1 → S xs → I xs D1 W → W.heap[D]? = some (.deferred (some [])) → Q .normal { a with defers := { target := .collected D, args := #[] } :: a.defers } W)
    (hstop : ∀ (D : Nat) (c : Code) (pre : List α) (D1 : List Nat) (W : World), w.heap.size ≤ D → D ∉ D1 → Sp pre → Ix c pre D1 W → W.heap[D]? = some (.deferred (some [])) → c.wpIn Fence.wide 0 P Q { a with defers := { target := .collected D, args := #[] } :: a.defers } W) :
    (Code.rangeFunc g ps assign body).wpIn Fence.wide 0 P Q a w := by
  refine wpIn_rangeFunc ?_
  intro fn hfn
  have hro : Fence.wide.round = none := rfl
  rw [hro]
  obtain ⟨rec, hrec⟩ : ∃ rec : LoopState → Option Code → Loop, rec = fun st pe => { state := st, pending := pe, fn, tmps := a.tmps, params := ps, assign, body, defers := w.heap.size } := ⟨_, rfl⟩
  obtain ⟨W1, hW1⟩ : ∃ W1, (w.alloc (.deferred (some []))).alloc (.loop (rec .ready none)) = W1 := ⟨_, rfl⟩
  have hL1 : W1.heap[w.heap.size + 1]? = some (.loop (rec .ready none)) := by
    rw [← hW1]; have := blk_new (w.alloc (.deferred (some []))) (.loop (rec .ready none)); rwa [World.size_alloc] at this
  have hK1 : W1.heap[w.heap.size]? = some (.deferred (some [])) := by
    rw [← hW1]; exact blk_alloc (blk_new w _) _
  have hc1 : Chg [] w W1 := by rw [← hW1]; exact ((Chg.refl _ _).alloc _).alloc _
  have hs1 : W1.heap.size = w.heap.size + 2 := by rw [← hW1]; simp
  have hI1 : I [] D0 W1 := hI _ _ _ _ [] h0 hc1 (by simp)
  refine ⟨w.heap.size + 1, [{ target := .collected w.heap.size, args := #[] }], W1, { target := .fn (.func gf) lb, args := #[.func (.yield (w.heap.size + 1)) #[] #[]] }, W1, gf,
    #[.func (.yield (w.heap.size + 1)) #[] #[]] ++ lb, W1, ?_, ?_, ?_, ?_, (fun h => (by cases h)), ?_⟩
  · rw [← hW1, hrec]; exact run_enterLoop_outer _ _ _ _ _
  · simp only [resolve, hg]
    simp [go_sem]
  · intro f' hf'; exact trivial
  · simp [invoke, go_sem, eg]
  · refine (hseq (w.heap.size + 1)
      (fun pre D W => ∃ D1, D = (w.heap.size + 1) :: w.heap.size :: D1 ∧ (w.heap.size + 1) ∉ D1 ∧ w.heap.size ∉ D1 ∧ I pre D1 W ∧ W.heap[w.heap.size + 1]? = some (.loop (rec .ready none)) ∧ W.heap[w.heap.size]? = some (.deferred (some [])))
      (fun pre D W => ∃ c D1, D = (w.heap.size + 1) :: w.heap.size :: D1 ∧ (w.heap.size + 1) ∉ D1 ∧ w.heap.size ∉ D1 ∧ Ix c pre D1 W ∧ W.heap[w.heap.size + 1]? = some (.loop (rec .done (some c))) ∧ W.heap[w.heap.size]? = some (.deferred (some [])))
      W1 ((w.heap.size + 1) :: w.heap.size :: D0) (hb0.nil_trans hc1) ?_ ?_ ?_ ⟨D0, rfl, fun h => by have := (hD0 _ h).1; omega, fun h => by have := (hD0 _ h).1; omega, hI1, hL1, hK1⟩ ?_).mono ?_
    · rintro pre D W W' F ⟨D1, rfl, n1, n2, hi, hl, hk⟩ hc hF
      exact ⟨D1, rfl, n1, n2, hI _ _ _ _ F hi hc (fun k hk => ⟨fun h => (hF k hk).1 (by simp [h]), by have := (hF k hk).2; omega⟩),
        hc.at hl (fun h => (hF _ h).1 (by simp)), hc.at hk (fun h => (hF _ h).1 (by simp))⟩
    · rintro pre D W W' F ⟨c, D1, rfl, n1, n2, hi, hl, hk⟩ hc hF
      exact ⟨c, D1, rfl, n1, n2, hIx c _ _ _ _ F hi hc (fun k hk => ⟨fun h => (hF k hk).1 (by simp [h]), by have := (hF k hk).2; omega⟩),
        hc.at hl (fun h => (hF _ h).1 (by simp)), hc.at hk (fun h => (hF _ h).1 (by simp))⟩
    · rintro pre x W0 D ⟨D0', rfl, n1', n2', hi, hl0, hk0⟩ hlt0 hsp
      have hll0 : w.heap.size + 1 < W0.heap.size := blk_lt hl0
      have hy := run_yield (P := P) (args := encs x) hl0 (by rw [hrec]; exact hps x)
      rw [hrec] at hy
      refine ⟨fn, _, assign, body, hy, roundIn_of_wpIn hfn (hassign _ pre x W0 D0' _ hi (fun k hk' => hlt0 k (by simp [hk'])) hsp (fun a' W D1 hd0 hc0 hax => ?_))⟩
      have hl : W.heap[w.heap.size + 1]? = some (.loop (rec .ready none)) := hc0.at hl0 n1'
      have hk : W.heap[w.heap.size]? = some (.deferred (some [])) := hc0.at hk0 n2'
      have n1 : (w.heap.size + 1) ∉ D1 := fun h => (hd0 _ h).2.elim n1' (fun q => by omega)
      have n2 : w.heap.size ∉ D1 := fun h => (hd0 _ h).2.elim n2' (fun q => by omega)
      refine ⟨_, run_beginRound hl (by rw [hrec]), ?_⟩
      have hll : w.heap.size + 1 < W.heap.size := blk_lt hl
      have hl2 : (W.putObj (w.heap.size + 1) (.loop { rec .ready none with state := .busy })).heap[w.heap.size + 1]? = some (.loop { rec .ready none with state := .busy }) := World.putObj_heap_same hll
      have hk2 : (W.putObj (w.heap.size + 1) (.loop { rec .ready none with state := .busy })).heap[w.heap.size]? = some (.deferred (some [])) := (World.putObj_heap_other (by omega)).trans hk
      have hc2 := chg_put W (w.heap.size + 1) (.loop { rec .ready none with state := .busy })
      have hsz2 : (W.putObj (w.heap.size + 1) (.loop { rec .ready none with state := .busy })).heap.size = W.heap.size := by simp
      generalize W.putObj (w.heap.size + 1) (.loop { rec .ready none with state := .busy }) = W2 at *
      refine wpIn_mono (hbody _ pre x a' _ D1 (hAx _ _ _ _ _ _ _ hax hc2 (by simp; exact n1)) (fun k hk' => by rw [hsz2]; exact (hd0 k hk').1) hsp) ?_
      have fin : ∀ (jump : Option Code) (W3 : World) (D3 : List Nat), Dok D1 W2 D3 W3 → Chg D1 W2 W3 →
          (Instr.endRound (w.heap.size + 1) jump).run P W3 = .ok (.bool jump.isNone) (W3.putObj (w.heap.size + 1) (.loop (rec (if jump.isNone then .ready else .done) jump))) ∧
          (W3.putObj (w.heap.size + 1) (.loop (rec (if jump.isNone then .ready else .done) jump))).heap[w.heap.size + 1]? = some (.loop (rec (if jump.isNone then .ready else .done) jump)) ∧
          (W3.putObj (w.heap.size + 1) (.loop (rec (if jump.isNone then .ready else .done) jump))).heap[w.heap.size]? = some (.deferred (some [])) ∧
          (w.heap.size + 1) ∉ D3 ∧ w.heap.size ∉ D3 ∧
          Dok ((w.heap.size + 1) :: w.heap.size :: D0') W0 ((w.heap.size + 1) :: w.heap.size :: D3) (W3.putObj (w.heap.size + 1) (.loop (rec (if jump.isNone then .ready else .done) jump))) ∧
          Chg ((w.heap.size + 1) :: w.heap.size :: D0') W0 (W3.putObj (w.heap.size + 1) (.loop (rec (if jump.isNone then .ready else .done) jump))) ∧
          Chg [w.heap.size + 1] W3 (W3.putObj (w.heap.size + 1) (.loop (rec (if jump.isNone then .ready else .done) jump))) := fun jump W3 D3 hd hc3 => by
        have hl3 := hc3.at hl2 n1
        have := run_endRound (P := P) jump hl3
        have hn : (w.heap.size + 1) ∉ D3 ∧ w.heap.size ∉ D3 := ⟨fun h => (hd _ h).2.elim n1 (fun q => by omega), fun h => (hd _ h).2.elim n2 (fun q => by omega)⟩
        rw [hrec] at this ⊢
        refine ⟨this, World.putObj_heap_same (blk_lt hl3), (World.putObj_heap_other (by omega)).trans (hc3.at hk2 n2), hn.1, hn.2, ?_, ?_, chg_put _ _ _⟩
        · intro k hk'
          have hs3 := hc3.size
          have hs0 := hc0.size
          rcases List.mem_cons.1 hk' with q | hk'
          · subst q; exact ⟨by simp; omega, .inl (by simp)⟩
          · rcases List.mem_cons.1 hk' with q | hk'
            · subst q; exact ⟨by simp; omega, .inl (by simp)⟩
            · have := hd k hk'
              exact ⟨by simp; omega, this.2.elim (fun q => (hd0 k q).2.elim (fun q => .inl (by simp [q])) (fun q => .inr (by omega))) (fun q => .inr (by omega))⟩
        · have q0 : Chg ((w.heap.size + 1) :: w.heap.size :: D0') W0 W := hc0.mono (fun k hk _ => by simp [hk])
          have q1 := q0.trans hc2 (fun k hk => .inl (by simp at hk; simp [hk]))
          have q2 := q1.trans hc3 (fun k hk => (hd0 k hk).2.elim (fun q => .inl (by simp [q])) .inr)
          exact q2.trans (chg_put W3 (w.heap.size + 1) _) (fun k hk => .inl (by simp at hk; simp [hk]))
      rintro e a3 W3 hp
      cases e with
      | normal =>
        obtain ⟨D3, hd3, hc3, hi3⟩ := hp
        obtain ⟨hr, hl4, hk4, m1, m2, hd4, hc4, hc5⟩ := fin none W3 D3 hd3 hc3
        exact ⟨_, _, hr, _, hd4, hc4, .inl ⟨rfl, D3, rfl, m1, m2, hI _ _ _ _ _ hi3 hc5 (by simp; exact m1), hl4, hk4⟩⟩
      | ret =>
        obtain ⟨D3, hd3, hc3, hi3⟩ := hp
        obtain ⟨hr, hl4, hk4, m1, m2, hd4, hc4, hc5⟩ := fin (some .ret) W3 D3 hd3 hc3
        exact ⟨_, _, hr, _, hd4, hc4, .inr ⟨rfl, .ret, D3, rfl, m1, m2, hIx _ _ _ _ _ _ hi3 hc5 (by simp; exact m1), hl4, hk4⟩⟩
      | exit id =>
        obtain ⟨D3, hd3, hc3, hi3⟩ := hp
        obtain ⟨hr, hl4, hk4, m1, m2, hd4, hc4, hc5⟩ := fin (some (.exit id)) W3 D3 hd3 hc3
        exact ⟨_, _, hr, _, hd4, hc4, .inr ⟨rfl, .exit id, D3, rfl, m1, m2, hIx _ _ _ _ _ _ hi3 hc5 (by simp; exact m1), hl4, hk4⟩⟩
      | goto t =>
        obtain ⟨D3, hd3, hc3, hi3⟩ := hp
        obtain ⟨hr, hl4, hk4, m1, m2, hd4, hc4, hc5⟩ := fin (some (.goto t)) W3 D3 hd3 hc3
        exact ⟨_, _, hr, _, hd4, hc4, .inr ⟨rfl, .goto t, D3, rfl, m1, m2, hIx _ _ _ _ _ _ hi3 hc5 (by simp; exact m1), hl4, hk4⟩⟩
      | panic ch => exact hp.elim
      | outgrown => exact hp.elim
    · intro k hk
      rcases List.mem_cons.1 hk with q | hk
      · subst q; exact ⟨by omega, fun h => by have := hft _ h; omega⟩
      · rcases List.mem_cons.1 hk with q | hk
        · subst q; exact ⟨by omega, fun h => by have := hft _ h; omega⟩
        · have := hD0 k hk
          exact ⟨by omega, this.2⟩
    · rintro e W2 ⟨⟨v, rfl⟩, (⟨xs, D, hS, D1, rfl, n1, n2, hi, hl, hk⟩ | ⟨pre, D, hSp, c, D1, rfl, n1, n2, hi, hl, hk⟩)⟩
      · exact ⟨none, _, by have := run_endLoop (P := P) hl (by rw [hrec]; simp); rw [hrec] at this; exact this, hdone _ xs D1 _ (Nat.le_refl _) n2 hS (hI _ _ _ _ _ hi (chg_put _ _ _) (by simp; exact n1)) ((World.putObj_heap_other (by omega)).trans hk)⟩
      · exact ⟨some c, _, by have := run_endLoop (P := P) hl (by rw [hrec]; simp); rw [hrec] at this; exact this, hstop _ c pre D1 _ (Nat.le_refl _) n2 hSp (hIx c _ _ _ _ _ hi (chg_put _ _ _) (by simp; exact n1)) ((World.putObj_heap_other (by omega)).trans hk)⟩
end
end Go.Proofs.YtnodjlgihhinpaaDoor

/- maps.Keys at the store's chunks, and its iterator: contracts. -/
namespace Go.Proofs.YtnodjlgihhinpaaDoor
open Go.RowKit Go.Shelf
set_option linter.unusedVariables false
set_option linter.unusedSimpArgs false
attribute [local go_sem] Oper.semAt_some

/-- Some of these, in some order. -/
def KeysSome {K : Type} (l : List K) (pre : List K) : Prop := ∃ rest, (pre ++ rest).Perm l
theorem KeysSome.le {K : Type} {l pre : List K} (h : KeysSome l pre) : pre.length ≤ l.length := by
  obtain ⟨rest, h⟩ := h
  have := h.length_eq
  simp at this
  omega
set_option maxRecDepth 100000 in
set_option maxHeartbeats 2000000 in
theorem keys_seq (B cm : Nat) (m : List (Nat × Value)) (w : World) (hb : w.heap[B]? = some (.cells #[.map (some cm)] 97 (0, 0))) (hm : MapIs encK w cm m) :
    Seq Tryd.prog 84 #[.pointer (some ⟨B, 0, none⟩)] (fun k => #[encK k]) (fun ks => ks.Perm (m.map (·.1))) (KeysSome (m.map (·.1))) [B, cm] w := by
  intro l J Jx W D hcW hJ hJx hY h0 hD
  have hc : W.cell? ⟨B, 0, none⟩ = some (.map (some cm)) := blk_cell (hcW.at hb (by simp)) 0 rfl
  have hmW : MapIs encK W cm m := hm.chg hcW (by simp)
  have hcl := hmW.lt
  clear hb hm hcW
  refine callsIn_of_wp Tryd.func84 rfl trivial ?_ rfl
  simp only [Tryd.ntmps84, List.size_toArray, List.length_cons, List.length_nil, Nat.reduceAdd, Nat.reduceSub, Array.replicate_succ, Array.replicate_zero, List.push_toArray, List.append_toArray, List.nil_append, List.cons_append]
  gi_wp2_with (first
    | (gi_at_range; refine wpIn_mrange _ rfl _ rfl u_mapc rfl hmW ?_; intro w0 hrg0 hc0 hs0)
    | gi_in)
  gi_loopw [3] (fun _ wr => ∃ pre cnt D, RngIs encK wr cm W.heap.size m pre cnt ∧ KeysSome (m.map (·.1)) pre ∧ J pre D wr ∧ (∀ k ∈ D, k < wr.heap.size ∧ k ≠ cm ∧ k ≠ W.heap.size))
    (fun _ wr => rngLeft wr cm W.heap.size)
  case atStart =>
    exact ⟨[], _, D, hrg0, hrg0.rest, hJ _ _ _ _ [] h0 hc0 (by simp), fun k hk => by have := hD k hk; refine ⟨by omega, ?_, by omega⟩; intro e; subst e; exact this.2 (by simp)⟩
  case round =>
    obtain ⟨pre, cnt, D1, hrg, hks, hj, hd⟩ := hrel
    gi_wp2_with (first
      | (gi_at_next; refine wpIn_mnext _ rfl _ rfl encK_law rfl hrg ?_ ?_)
      | gi_in)
    · intro hc0 hp
      gi_wp2
      go_end0
      exact ⟨⟨_, rfl⟩, .inl ⟨pre, D1, hp, hj⟩⟩
    · intro k v w2 hkv hkp hrg2 hpos hc2 hs2 hen
      have hks2 : KeysSome (m.map (·.1)) (pre ++ [k]) := hrg2.rest
      have hj2 : J pre D1 (w2.alloc (.cells #[.int .u64 (k : Nat)] 93)) := hJ _ _ _ _ [W.heap.size] hj ((hc2).nil_trans ((Chg.refl _ _).alloc _)) (by intro y hy; simp at hy; subst hy; exact ⟨fun h => (hd _ h).2.2 rfl, Nat.le_refl _⟩)
      obtain ⟨fn, tmps, assign, body, hy, hR⟩ := hY pre k _ D1 hj2 (fun y hy => by have := (hd y hy).1; simp; omega) hks2
      have hrg3 : RngIs encK (w2.alloc (.cells #[.int .u64 (k : Nat)] 93)) cm W.heap.size m (pre ++ [k]) (cnt - 1) := hrg2.chg ((Chg.refl [] _).alloc _) (by simp) (by simp)
      have hz2 := hs2
      have HL := Lib.hid hrg.left
      have hsl := hrg.lt.1
      clear hrg hrg2 hs2 hc2 hj hj2 hrg0
      unfold encK at hy hen
      gi_wp2
      refine ⟨rfl, hR.mono ?_⟩
      rintro e w3 ⟨D3, hd3, hc3, (⟨rfl, hj3⟩ | ⟨rfl, hj3⟩)⟩
      · gi_wp2
        have hrg4 := hrg3.chg hc3 (fun h => (hd _ h).2.1 rfl) (fun h => (hd _ h).2.2 rfl)
        go_roundw
        case rel => exact ⟨pre ++ [k], cnt - 1, D3, hrg4, hks2, hj3, fun y hy => ⟨(hd3 y hy).1, by
          rcases (hd3 y hy).2 with q | q
          · exact (hd y q).2.1
          · simp at q; omega, by
          rcases (hd3 y hy).2 with q | q
          · exact (hd y q).2.2
          · simp at q; omega⟩⟩
        case measure => rw [hrg4.left, HL.out]; omega
      · gi_wp2
        refine bodyPost_ret (results_none rfl _ _ _) rfl ?_
        exact ⟨⟨_, rfl⟩, .inr ⟨pre ++ [k], D3, hks2, hj3⟩⟩
theorem keys_calls (mb : Option Nat) (w : World) : Calls Tryd.prog 48 #[.map mb] w fun e w' => e = .returned (.func (.func 84) #[] #[.pointer (some ⟨w.heap.size, 0, none⟩)]) ∧ w' = w.alloc (.cells #[.map mb] 97) := by
  go_enter Tryd.func48, Tryd.ntmps48
  go_wp2
  go_ret
  exact ⟨rfl, rfl⟩
end Go.Proofs.YtnodjlgihhinpaaDoor

/- slices.AppendSeq and slices.Collect at the store's keys: contracts. -/
namespace Go.Proofs.YtnodjlgihhinpaaDoor
open Go.RowKit Go.Shelf
set_option linter.unusedVariables false
set_option linter.unusedSimpArgs false
attribute [local go_sem] Oper.semAt_some

/-! Rows of keys of the call's own. -/
theorem u_keys : Tryd.prog.underlying 90 = some (.slice 93) := by kernel_rfl
theorem i_key : (Tryd.prog.info? 93).map (fun i => (i.zero, i.size, i.bytes)) = some (some (.agg #[.int .u64 0]), 1, 8) := by kernel_rfl
theorem infoOfK {P : Program} {t : TypeId} {z : Value} {n k : Nat} (h : (P.info? t).map (fun i => (i.zero, i.size, i.bytes)) = some (some z, n, k)) : ∃ i, P.info? t = some i ∧ i.zero = some z ∧ i.size = n ∧ i.bytes = k := by
  cases hi : P.info? t with
  | none => simp [hi] at h
  | some i => simp [hi] at h; exact ⟨i, rfl, h⟩
def KOwn (w : World) (B : Nat) (v : Value) (l : List Nat) : Prop := w.ownsRow B 93 1 v l.length (l.map fun (n : Nat) => Value.int .u64 (n : Int))
theorem KOwn.nil (w : World) (B : Nat) : KOwn w B (.slice none 0 0) [] := own_nil _ _ _ _
theorem KOwn.push {w : World} {B : Nat} {v : Value} {l : List Nat} (h : KOwn w B v l) (x : Nat) (hlen : l.length ≤ 1099511627776) (hB : B ≤ w.heap.size) (ty : TypeId) :
    ∃ v' w', (Builtin.append_ #[90, 90] ty #[v, .slice (some ⟨w.heap.size, 0, none⟩) 1 1]).run Tryd.prog (w.alloc (.cells #[.int .u64 x] 93)) = .ok v' w' ∧ KOwn w' B v' (l ++ [x]) ∧ Chg (ob v) w w' ∧ (∀ k ∈ ob v', k ∈ ob v ∨ w.heap.size ≤ k) := by
  obtain ⟨i, hi, hz, hsz, hby⟩ := infoOfK i_key
  have hc : Chg [] w (w.alloc (.cells #[.int .u64 x] 93)) := (Chg.refl _ _).alloc _
  have h1 := own_chg h hc (by simp)
  obtain ⟨v', w', hr, h2, h3, h4⟩ := run_append_any (P := Tryd.prog) (w.alloc (.cells #[.int .u64 x] 93)) B 90 ty 93 i _ 1 8 u_keys hi hz hsz hby rfl (by decide) v l.length _ h1 (some ⟨w.heap.size, 0, none⟩) 1 1 [.int .u64 x]
    ⟨rfl, fun _ => ⟨w.heap.size, 0, rfl, fun j u hu => by
      have : j = 0 := by
        cases j with
        | zero => rfl
        | succ j => simp at hu
      subst this
      simp at hu
      subst hu
      exact blk_cell (blk_new w _) 0 rfl⟩⟩ (by intro u hu; simp at hu; subst hu; rfl) (by unfold maxLen; omega) (by omega) (by have := hc.size; omega)
  refine ⟨v', w', hr, ?_, hc.of_nil.trans h3 (fun k hk => .inl hk), fun k hk => ?_⟩
  · unfold KOwn
    rw [List.length_append, List.map_append]
    exact h2
  · rcases h4 k hk with q | q
    · exact .inl q
    · right; have := hc.size; omega
theorem KOwn.shape {w : World} {B : Nat} {v : Value} {l : List Nat} (h : KOwn w B v l) : ∃ a cap, v = .slice a l.length cap := by
  rcases h.2 with ⟨rfl, h0⟩ | ⟨g, cap, cur, rfl, _⟩
  · exact ⟨none, 0, by rw [h0]⟩
  · exact ⟨_, cap, rfl⟩

def apK (ts : Array TypeId) (ty : TypeId) (xs : Array Value) : Sem Value := Builtin.append_ ts ty xs
theorem hold_apK (ts : Array TypeId) (ty : TypeId) (xs : Array Value) : Builtin.append_ ts ty xs = apK ts ty xs := rfl
attribute [local go_sem ↓] hold_apK

/-- What collecting comes to. -/
def CollP (S : List Nat → Prop) (w : World) (e : Ending) (w' : World) : Prop := ∃ v ks, e = .returned v ∧ S ks ∧ KOwn w' w.heap.size v ks ∧ Chg [] w w'
/-- Between two rounds: the box in block B holds the row of what has come; nothing below B has changed. -/
def CollI (w : World) (pre : List Nat) (D : List Nat) (W : World) : Prop :=
  ∃ v, D = w.heap.size :: ob v ∧ W.heap[w.heap.size]? = some (.cells #[v] 90 (0, 0)) ∧ KOwn W w.heap.size v pre ∧ w.heap.size ∉ ob v ∧ Chg [] w W
theorem CollI.stays (w : World) : Stays (w.heap.size + 1) (CollI w) := by
  rintro pre D W W' F ⟨v, rfl, hb, ho, hn, hc⟩ hcF hF
  exact ⟨v, rfl, hcF.at hb (fun h => (hF _ h).1 (by simp)), own_chg ho hcF (fun k hk h => (hF _ h).1 (by simp [hk])), hn, hc.trans hcF (fun x hx => .inr (by have := (hF x hx).2; omega))⟩
/-- Behind the assignment to the loop's variable. -/
def CollA (w : World) (f : Nat → Act) (x : Nat) (a' : Act) (pre : List Nat) (D : List Nat) (W : World) : Prop :=
  ∃ Bx v, a' = f Bx ∧ D = Bx :: w.heap.size :: ob v ∧ W.heap[Bx]? = some (.cells #[.int .u64 (x : Nat)] 93 (0, 0)) ∧ w.heap.size < Bx ∧ Bx ∉ ob v ∧ W.heap[w.heap.size]? = some (.cells #[v] 90 (0, 0)) ∧ KOwn W w.heap.size v pre ∧ w.heap.size ∉ ob v ∧ Chg [] w W
theorem CollA.stays (w : World) (f : Nat → Act) (x : Nat) (a' : Act) : Stays (w.heap.size + 1) (CollA w f x a') := by
  rintro pre D W W' F ⟨Bx, v, rfl, rfl, hx, h1, h2, hb, ho, hn, hc⟩ hcF hF
  exact ⟨Bx, v, rfl, rfl, hcF.at hx (fun h => (hF _ h).1 (by simp)), h1, h2, hcF.at hb (fun h => (hF _ h).1 (by simp)), own_chg ho hcF (fun k hk h => (hF _ h).1 (by simp [hk])), hn, hc.trans hcF (fun x hx => .inr (by have := (hF x hx).2; omega))⟩
set_option maxRecDepth 100000 in
set_option maxHeartbeats 2000000 in
theorem appseq_calls (gf : Nat) (lb : Array Value) (S Sp : List Nat → Prop) (foot : List Nat) (w : World) (eg : ∀ args w, (callFunc gf args).run Tryd.prog w = .ok (.enter gf args) w)
    (hseq : Seq Tryd.prog gf lb (fun k => #[encK k]) S Sp foot w) (hft : ∀ k ∈ foot, k < w.heap.size) (hSp : ∀ pre, Sp pre → pre.length ≤ 1099511627776) :
    Calls Tryd.prog 101 #[.slice none 0 0, .func (.func gf) #[] lb] w (CollP S w) := by
  refine callsIn_wide (n := 0).1 ?_
  refine callsIn_of_wp_marks Tryd.func101 rfl trivial ?_ rfl
  simp only [Tryd.ntmps101, List.size_toArray, List.length_cons, List.length_nil, Nat.reduceAdd, Nat.reduceSub, Array.replicate_succ, Array.replicate_zero, List.push_toArray, List.append_toArray, List.nil_append, List.cons_append]
  gi_wp2
  have hb := blk_new w (.cells #[.slice none 0 0] 90)
  have hc1 : Chg [] w (w.alloc (.cells #[.slice none 0 0] 90)) := (Chg.refl _ _).alloc _
  have hs1 : (w.alloc (.cells #[.slice none 0 0] 90)).heap.size = w.heap.size + 1 := by simp
  generalize w.alloc (.cells #[.slice none 0 0] 90) = w1 at *
  refine wpIn_range (gf := gf) (lb := lb) rfl eg hseq hc1 (fun _ => rfl) (CollI w) (fun _ _ _ _ => False) [w.heap.size] (fun k hk => by simp at hk; subst hk; exact ⟨by omega, fun h => by have := hft _ h; omega⟩) (fun k hk => by have := hft k hk; omega)
    (by rw [hs1]; exact CollI.stays w) (fun c pre D W W' F h => h.elim) ⟨_, rfl, hb, KOwn.nil _ _, by simp [ob_nil], hc1⟩
    (fun x => CollA w (fun Bx => { tmps := #[.slice none 0 0, .func (.func gf) #[] lb, .pointer (some ⟨w.heap.size, 0, none⟩), undef, .slice none 0 0, .pointer (some ⟨Bx, 0, none⟩), .func (.func gf) #[] lb, encK x, undef, undef, undef, undef, undef], defers := [] }) x)
    (fun x a' => by rw [hs1]; exact CollA.stays w _ x a') ?assign ?body ?done ?stop
  case assign =>
    rintro l pre x W D1 K ⟨v, rfl, hb, ho, hn, hc⟩ hd hsp hK
    have hz := (blk_lt hb)
    unfold encK
    gi_wp2
    refine hK _ _ (W.heap.size :: w.heap.size :: ob v) ?_ ((Chg.refl _ _).alloc _) ⟨W.heap.size, v, rfl, rfl, blk_new W _, hz, fun h => by have := (own_lt ho _ h).2; omega, blk_alloc hb _, own_chg ho ((Chg.refl [] W).alloc _) (by simp), hn, hc.alloc _⟩
    intro k hk
    rcases List.mem_cons.1 hk with q | hk
    · subst q; exact ⟨by simp, .inr (Nat.le_refl _)⟩
    · exact ⟨by have := hd k hk; simp; omega, .inl hk⟩
  case body =>
    rintro l pre x a' W D1 ⟨Bx, v, rfl, rfl, hx, hx1, hx2, hb, ho, hn, hc⟩ hd hsp
    have hcx : W.cell? ⟨Bx, 0, none⟩ = some (.int .u64 (x : Nat)) := blk_cell hx 0 rfl
    have hcb : W.cell? ⟨w.heap.size, 0, none⟩ = some v := blk_cell hb 0 rfl
    have hcz := blk_lt hb
    have hln := hSp _ hsp
    have hW := hc.size
    obtain ⟨v2, W2, hrun, hO2, hc2, hob⟩ := ho.push x (by simp at hln; omega) hW 90
    have hrun : (apK #[90, 90] 90 #[v, .slice (some ⟨W.heap.size, 0, none⟩) 1 1]).run Tryd.prog (W.alloc (.cells #[.int .u64 (x : Nat)] 93)) = .ok v2 W2 := hrun
    obtain ⟨a2, cap2, hv2⟩ := hO2.shape
    subst hv2
    have hb2 := hc2.at hb hn
    have hf2 := blk_frozen hb2 0
    have hcb2 : W2.cell? ⟨w.heap.size, 0, none⟩ = some v := blk_cell hb2 0 rfl
    gi_wp2
    rw [show (pre ++ [x]).length = pre.length + 1 from by simp] at hO2 hob
    have hz2 := hc2.size
    have hn2 : w.heap.size ∉ ob (.slice a2 (pre.length + 1) cap2) := fun h => (hob _ h).elim hn (fun q => by omega)
    have hs3 : Chg [w.heap.size] W2 (W2.setCell ⟨w.heap.size, 0, none⟩ (.slice a2 (pre.length + 1) cap2)) := (Chg.refl _ _).setCell (.inl (by simp)) _
    refine ⟨w.heap.size :: ob (.slice a2 (pre.length + 1) cap2), ?_, ?_, ⟨_, rfl, blk_set hb2 0 _, own_chg hO2 hs3 (fun k hk h => by simp at h; subst h; exact hn2 hk), hn2, ?_⟩⟩
    · intro k hk
      rcases List.mem_cons.1 hk with q | hk
      · subst q; exact ⟨by have := hs3.size; omega, .inl (by simp)⟩
      · refine ⟨by have := (own_lt hO2 _ hk).2; have := hs3.size; omega, ?_⟩
        exact (hob k hk).imp (fun q => by simp [q]) id
    · exact (hc2.mono (fun k hk _ => by simp [hk])).trans hs3 (fun k hk => by simp at hk; simp [hk])
    · exact (hc.trans hc2 (fun k hk => .inr (own_lt ho k hk).1)).trans hs3 (fun k hk => .inr (by simp at hk; omega))
  case done =>
    rintro D ks D1 W hD hDn hS ⟨v, rfl, hb, ho, hn, hc⟩ hK
    have hcb : W.cell? ⟨w.heap.size, 0, none⟩ = some v := blk_cell hb 0 rfl
    gi_wp2
    refine ⟨by simp, .inl ⟨_, _, rfl, run_takeDeferred hK, ?_⟩⟩
    have hp : Chg [D] W (W.putObj D (.deferred none)) := chg_put _ _ _
    refine ⟨_, results_tmp rfl _ _ _, v, ks, rfl, hS, own_chg ho hp (fun k hk h => hDn (by simp at h; subst h; simp [hk])), hc.trans hp (fun x hx => .inr (by simp at hx; omega))⟩
  case stop =>
    rintro D c pre D1 W hD hDn hSp h
    exact h.elim
theorem collect_calls (gf : Nat) (lb : Array Value) (S Sp : List Nat → Prop) (foot : List Nat) (w : World) (eg : ∀ args w, (callFunc gf args).run Tryd.prog w = .ok (.enter gf args) w)
    (hseq : Seq Tryd.prog gf lb (fun k => #[encK k]) S Sp foot w) (hft : ∀ k ∈ foot, k < w.heap.size) (hSp : ∀ pre, Sp pre → pre.length ≤ 1099511627776) :
    Calls Tryd.prog 82 #[.func (.func gf) #[] lb] w (CollP S w) := by
  have hA := appseq_calls gf lb S Sp foot w eg hseq hft hSp
  go_enter Tryd.func82, Tryd.ntmps82
  go_wp2_with (go_at_call 101; refine hA.mono ?_; rintro e w1 ⟨v, ks, rfl, hS, hO, hc⟩)
  go_ret
  exact ⟨v, ks, rfl, hS, hO, hc⟩
end Go.Proofs.YtnodjlgihhinpaaDoor

/- The comparison of All's keys. -/
namespace Go.Proofs.YtnodjlgihhinpaaDoor
open Go.RowKit Go.Shelf Go.Sort
set_option linter.unusedVariables false
set_option linter.unusedSimpArgs false
def cfK (x y : Nat) : Int := if x < y then -1 else 1
def encKs (x : Nat) : List Value := [.int .u64 (x : Nat)]
theorem cmpK_calls (x y : Nat) (W : World) : Calls Tryd.prog 49 #[.agg #[.int .u64 (x : Nat)], .agg #[.int .u64 (y : Nat)]] W fun e w' => e = .returned (.int .i64 (cfK x y)) ∧ ∃ q os', w' = grow (W.drewN q) os' := by
  by_cases h : x < y
  · have hc := Lib.hid (show cfK x y = -1 from if_pos h)
    go_enter Tryd.func49, Tryd.ntmps49
    go_wp2
    go_ret
    exact ⟨by rw [hc.out]; rfl, 0, _, by rw [alloc_eq_grow, alloc_eq_grow, grow_grow]; rfl⟩
  · have hc := Lib.hid (show cfK x y = 1 from if_neg h)
    go_enter Tryd.func49, Tryd.ntmps49
    go_wp2
    go_ret
    exact ⟨by rw [hc.out]; rfl, 0, _, by rw [alloc_eq_grow, alloc_eq_grow, grow_grow]; rfl⟩
theorem cmpK_lays (blk size : Nat) (w : World) : CmpLays Tryd.prog 49 #[] encKs 1 cfK blk 0 size w := fun _ _ _ _ x y => cmpK_calls x y _
theorem ltK (x y : Nat) : ltOf cfK x y = decide (x < y) := by
  unfold ltOf cfK
  by_cases h : x < y <;> simp [h]
theorem swoK : SWO (ltOf cfK) where
  irrefl x := by rw [ltK]; simp
  trans x y z h1 h2 := by rw [ltK] at *; simp at *; omega
  ntrans x y z h1 h2 := by rw [ltK] at *; simp at *; omega
end Go.Proofs.YtnodjlgihhinpaaDoor

/- slices.SortFunc on a row of the call's own, in Chg's words. Nothing of a program. -/
namespace Go.Proofs.YtnodjlgihhinpaaDoor
open Go.RowKit Go.Shelf Go.Sort
set_option linter.unusedVariables false
set_option linter.unusedSimpArgs false
section
variable {α : Type} [Inhabited α]
omit [Inhabited α] in
theorem flatMap_at {enc : α → List Value} {k : Nat} (hk : ∀ x, (enc x).length = k) : ∀ (l : List α) (i : Nat) (hi : i < l.length) (j : Nat), j < k → (l.flatMap enc)[i * k + j]? = (enc l[i])[j]? := by
  intro l
  induction l with
  | nil => intro i hi; simp at hi
  | cons x l ih =>
    intro i hi j hj
    rw [List.flatMap_cons]
    cases i with
    | zero => rw [List.getElem?_append_left (by rw [hk]; omega)]; simp
    | succ i =>
      rw [List.getElem?_append_right (by rw [hk, Nat.succ_mul]; omega), hk, show (i + 1) * k + j - k = i * k + j from by rw [Nat.succ_mul]; omega, ih i (by simpa using hi) j hj]
      simp
omit [Inhabited α] in
theorem flatMap_len {enc : α → List Value} {k : Nat} (hk : ∀ x, (enc x).length = k) : ∀ (l : List α), (l.flatMap enc).length = l.length * k := by
  intro l
  induction l with
  | nil => simp
  | cons x l ih => rw [List.flatMap_cons, List.length_append, hk, ih, List.length_cons, Nat.succ_mul, Nat.add_comm]
theorem flatK_toList {enc : α → List Value} {k : Nat} (hk : ∀ x, (enc x).length = k) (l : List α) : (flatK enc k l.toArray).toList = l.flatMap enc := by
  rcases Nat.eq_zero_or_pos k with h0 | h0
  · subst h0
    have h1 := flatMap_len hk l
    rw [Nat.mul_zero] at h1
    rw [List.eq_nil_of_length_eq_zero h1]
    simp [flatK]
  · apply List.ext_getElem?
    intro t
    by_cases ht : t < l.length * k
    · have hi : t / k < l.length := Nat.div_lt_of_lt_mul (by rw [Nat.mul_comm]; exact ht)
      have hj : t % k < k := Nat.mod_lt _ h0
      have e := flatMap_at hk l (t / k) hi (t % k) hj
      rw [show t / k * k + t % k = t from by rw [Nat.mul_comm]; exact Nat.div_add_mod t k] at e
      rw [e]
      have hl : t % k < (enc l[t / k]).length := by rw [hk]; exact hj
      simp only [flatK, Array.toList_map, Array.toList_range, List.size_toArray, List.getElem?_map, List.getElem?_range ht, Option.map_some]
      have e2 : l.toArray[t / k]! = l[t / k] := by rw [getElem!_pos _ _ (by simpa using hi)]; simp
      rw [e2, getElem!_pos (enc l[t / k]) (t % k) hl, List.getElem?_eq_getElem hl]
    · rw [List.getElem?_eq_none (by simp [flatK]; omega), List.getElem?_eq_none (by rw [flatMap_len hk]; omega)]
theorem srt_heap {enc : α → List Value} {k : Nat} {w : World} {g n : Nat} {os : Array Obj} {cur : Array Value} {e : TypeId} {fr : Nat × Nat} (d : Array α) (hb : w.heap[g]? = some (.cells cur e fr)) :
    (sortWorldK enc k w g 0 n d os).heap[g]? = some (.cells (putCells id 0 (flatK enc k d) cur) e fr) := by
  have hg : g < w.heap.size := (Array.getElem?_eq_some_iff.1 hb).1
  unfold sortWorldK
  rw [heap_grow_old _ _ (by simpa [putRowK] using hg)]
  simp [putRowK, putRow, mapBlock, Sort.ahead, Array.getElem?_modify, hb, onCells]
theorem srt_chg {enc : α → List Value} {k : Nat} {w : World} {g n : Nat} {os : Array Obj} (d : Array α) : Chg [g] w (sortWorldK enc k w g 0 n d os) := by
  refine ⟨rfl, rfl, rfl, by simp [sortWorldK, putRowK, mapBlock, Sort.ahead, putRow], fun j hj hne => ?_⟩
  unfold sortWorldK
  rw [heap_grow_old _ _ (by simpa [putRowK] using hj)]
  have : g ≠ j := fun e => hne (by simp [e])
  simp [putRowK, putRow, mapBlock, Sort.ahead, Array.getElem?_modify, this]
theorem take_put (cur F : Array Value) (h : F.size ≤ cur.size) : (putCells id 0 F cur).toList.take F.size = F.toList := by
  apply List.ext_getElem?
  intro j
  by_cases hj : j < F.size
  · rw [List.getElem?_take_of_lt hj, Array.getElem?_toList]
    simp [putCells, hj, show j < cur.size by omega]
  · rw [List.getElem?_take_eq_none (by omega), List.getElem?_eq_none (by simp; omega)]
variable {P : Program} {ρ : Ren}
/-- What sorting comes to. -/
def SortP (cf : α → α → Int) (enc : α → List Value) (k base : Nat) (e : TypeId) (v : Value) (l : List α) (w : World) (en : Ending) (w' : World) : Prop :=
  en = .returned (.tuple #[]) ∧ ∃ l' : List α, l'.Perm l ∧ (∀ i j (hi : i < j) (hj : j < l'.length), ¬ cf l'[j] l'[i] < 0) ∧ w'.ownsRow base e k v l.length (l'.flatMap enc) ∧ Chg (ob v) w w'
theorem sort_calls (L : SlLaysF0.n6 P ρ) (k : Nat) (aE : ∀ w, (isAgg (ρ.t 24)).run P w = .ok true w) (zE : ∀ w, (Go.sizeOf (ρ.t 24)).run P w = .ok k w) (enc : α → List Value) (hk : ∀ x, (enc x).length = k) (h1 : ∀ x, ∀ v ∈ enc x, v.oneCell' = true) (cf : α → α → Int) (hO : SWO (ltOf cf)) (g : Nat) (cb : Array Value)
    (eg : ∀ args w, (callFunc g args).run P w = .ok (.enter g args) w) (w : World) (base : Nat) (e : TypeId) (v : Value) (l : List α) (hown : w.ownsRow base e k v l.length (l.flatMap enc)) (hlen : l.length < 4611686018427387904)
    (hcmp : ∀ blk, ob v = [blk] → CmpLays P g cb enc k cf blk 0 l.length w) :
    Calls P (ρ.f 6) #[v, .func (.func g) #[] cb] w (SortP cf enc k base e v l w) := by
  rcases hown.2 with ⟨hv, h0⟩ | ⟨g0, cap, cur, hv, hb, hh, hnc, hcm, hcs, ht⟩
  · have hl : l = [] := List.eq_nil_of_length_eq_zero h0
    subst hl
    subst hv
    refine (AnyF.slices_SortFunc_none L none 0 _ w).mono ?_
    rintro en w' ⟨rfl, rfl⟩
    exact ⟨rfl, [], List.Perm.refl _, by simp, by simpa using hown, Chg.refl _ _⟩
  · subst hv
    have hF := flatK_toList hk l
    have hFs : (flatK enc k l.toArray).size = l.length * k := by rw [← Array.length_toList, hF, flatMap_len hk]
    have hcz : l.length * k ≤ cur.size := by rw [hcs]; exact Nat.mul_le_mul_right k hnc
    have hH : HoldsK enc k w g0 0 l.toArray := by
      intro j hj
      rw [hFs] at hj
      refine ⟨?_, blk_frozen hh _⟩
      rw [Nat.zero_add]
      refine blk_cell hh j ?_
      have h3 : (cur.toList.take (l.length * k))[j]? = (l.flatMap enc)[j]? := by rw [ht]
      rw [List.getElem?_take_of_lt hj, Array.getElem?_toList] at h3
      rw [h3, ← hF, Array.getElem?_toList, getElem!_pos _ _ (by omega), Array.getElem?_eq_getElem (by omega)]
      rfl
    have hs := AnyQ.slices_SortFunc L k aE zE enc hk h1 cf hO g cb g0 0 cap l.toArray w eg (by simpa using hcmp g0 rfl) hH (blk_lt hh) (by simpa using hlen)
    rw [show l.toArray.size = l.length from by simp] at hs
    refine hs.mono ?_
    rintro en w' ⟨rfl, d', n, os, hp, hsrt, rfl⟩
    have hsz : d'.size = l.length := by simpa using hp.1
    refine ⟨rfl, d'.toList, ?_, ?_, ?_, srt_chg d'⟩
    · have := hp.2.2
      have e1 : d'.extract 0 l.length = d' := by rw [← hsz]; simp
      have e2 : l.toArray.extract 0 l.length = l.toArray := by rw [show l.length = l.toArray.size from by simp]; simp
      rw [e1, e2] at this
      simpa using this
    · intro i j hi hj
      simp only [Array.length_toList] at hj
      have := hsrt i j (Nat.zero_le _) hi (by omega)
      rw [getElem!_pos _ _ (by omega), getElem!_pos _ _ (by omega)] at this
      simpa [ltOf] using this
    · have hd : flatK enc k d' = flatK enc k d'.toList.toArray := by simp
      have hF2 := flatK_toList hk d'.toList
      have hFs2 : (flatK enc k d').size = l.length * k := by rw [hd, ← Array.length_toList, hF2, flatMap_len hk, Array.length_toList, hsz]
      refine ⟨by rw [flatMap_len hk, Array.length_toList, hsz], .inr ⟨g0, cap, _, rfl, hb, srt_heap d' hh, hnc, hcm, by simp [putCells, hcs], ?_⟩⟩
      rw [← hFs2, take_put _ _ (by rw [hFs2]; exact hcz), hd, hF2]
end
end Go.Proofs.YtnodjlgihhinpaaDoor

/- slices.SortedFunc at the store's keys: contract. -/
namespace Go.Proofs.YtnodjlgihhinpaaDoor
open Go.RowKit Go.Shelf Go.Sort
set_option linter.unusedVariables false
set_option linter.unusedSimpArgs false
/-- What sorting the keys comes to. -/
def SortedP (L : List Nat) (w : World) (e : Ending) (w' : World) : Prop := ∃ v ks, e = .returned v ∧ ks.Perm L ∧ ks.Pairwise (· < ·) ∧ KOwn w' w.heap.size v ks ∧ Chg [] w w'
theorem isAgg_key (w : World) : (isAgg 93).run Tryd.prog w = .ok true w := by kernel_rfl
theorem sizeOf_key (w : World) : (Go.sizeOf 93).run Tryd.prog w = .ok 1 w := by kernel_rfl
theorem flat_keys (l : List Nat) : l.flatMap encKs = l.map fun (n : Nat) => Value.int .u64 (n : Int) := by
  induction l with
  | nil => rfl
  | cons x l ih => rw [List.flatMap_cons, ih]; rfl
theorem up_of_sorted {l : List Nat} (hn : l.Nodup) (hs : ∀ i j (hi : i < j) (hj : j < l.length), ¬ cfK l[j] l[i] < 0) : l.Pairwise (· < ·) := by
  rw [List.pairwise_iff_getElem]
  intro i j hi hj hij
  have h1 := hs i j hij hj
  have h2 : ¬ l[j] < l[i] := fun h => h1 (by unfold cfK; rw [if_pos h]; decide)
  have h3 : l[i] ≠ l[j] := fun e => by have := (List.getElem_inj hn).1 e; omega
  omega
theorem sorted_calls (B cm : Nat) (m : List (Nat × Value)) (w : World) (hb : w.heap[B]? = some (.cells #[.map (some cm)] 97 (0, 0))) (hm : MapIs encK w cm m) (hl : m.length ≤ 1099511627776) :
    Calls Tryd.prog 47 #[.func (.func 84) #[] #[.pointer (some ⟨B, 0, none⟩)], .func (.func 49) #[] #[]] w (SortedP (m.map (·.1)) w) := by
  have hC := collect_calls 84 #[.pointer (some ⟨B, 0, none⟩)] _ _ _ w (enters_of Tryd.func84 (by kernel_rfl) rfl) (keys_seq B cm m w hb hm)
    (fun k hk => by rcases List.mem_cons.1 hk with e | e; subst e; exact blk_lt hb; simp at e; subst e; exact hm.lt) (fun pre hp => by have := hp.le; rw [List.length_map] at this; omega)
  have hnd := hm.keys
  have eg : ∀ args w, (callFunc 49 args).run Tryd.prog w = .ok (.enter 49 args) w := enters_of Tryd.func49 (by kernel_rfl) rfl
  have hS := fun (W : World) (v : Value) (ks : List Nat) (h : KOwn W w.heap.size v ks) (hlen : ks.length < 4611686018427387904) => sort_calls Tryd.sortK 1 isAgg_key sizeOf_key encKs (fun _ => rfl) (fun x v hv => by simp [encKs] at hv; subst hv; rfl) cfK swoK 49 #[] eg W w.heap.size 93 v ks (by rw [flat_keys]; exact h) hlen (fun blk _ => cmpK_lays blk _ W)
  change ∀ W v ks, _ → _ → Calls Tryd.prog 83 _ _ _ at hS
  clear hb hm
  go_enter Tryd.func47, Tryd.ntmps47
  go_wp2_with (first
    | (go_at_call 82; refine hC.mono ?_; rintro e w1 ⟨v, ks, rfl, hp, hO, hc⟩)
    | (go_at_call 83; refine (hS _ v ks hO (by have := hp.length_eq; rw [List.length_map] at this; omega)).mono ?_; rintro e w2 ⟨rfl, l', hp', hs', hO', hc'⟩))
  go_ret
  refine ⟨v, l', rfl, hp'.trans hp, up_of_sorted (((hp'.trans hp).nodup_iff).2 hnd) (fun i j a b => Int.not_lt.2 (hs' i j a b)), ?_, hc.trans hc' (fun x hx => .inr (own_lt hO x hx).1)⟩
  have e := flat_keys l'
  unfold KOwn
  rw [← e, hp'.length_eq]
  exact hO'
end Go.Proofs.YtnodjlgihhinpaaDoor

/- m[k] = f(m[k]): an entry looked up (made, if it lacks) and stored in. Nothing of a program. -/
import Derived.Test.YtonppfebmeehcaaMapKit
namespace Go.Proofs.Ytonppfebmeehcaa
open Go.RowKit
set_option linter.unusedVariables false
set_option linter.unusedSimpArgs false
section
variable {K : Type} [DecidableEq K] {P : Program} {kt et t : TypeId} {enc : K → Value} {z : Value} {w : World} {b : Nat} {m : List (K × Value)}
def EsIs (enc : K → Value) (es : Array MapEntry) (clock : Nat) (m : List (K × Value)) : Prop :=
  es.toList.map (fun e => (e.key, e.val)) = m.map (fun x => (enc x.1, x.2)) ∧ (m.map (·.1)).Nodup ∧ (es.toList.map (·.born)).Nodup ∧ ∀ e ∈ es.toList, e.born < clock
theorem EsIs.modi {es : Array MapEntry} {clock : Nat} (h : EsIs enc es clock m) {i : Nat} {a : K} {u : Value} (hmk : m[i]? = some (a, u)) (v : Value) :
    EsIs enc (es.modify i fun e => { e with key := enc a, val := v }) clock (mput m a v) := by
  obtain ⟨hm, hn, hbn, hbl⟩ := h
  have hlen : es.toList.length = m.length := by have := congrArg List.length hm; simpa using this
  have hik : i < m.length := (List.getElem?_eq_some_iff.1 hmk).1
  have hie : i < es.size := by have := hlen; simp only [Array.length_toList] at this; omega
  have h0 : mget m a = some u := mget_of_mem hn (List.mem_iff_getElem?.2 ⟨i, hmk⟩)
  refine ⟨?_, nodup_put m a v hn, ?_, ?_⟩
  · unfold mput
    rw [h0]
    simp only [Option.isSome_some, if_true]
    apply List.ext_getElem?
    intro j
    have h1 := congrArg (fun l => l[j]?) hm
    simp only [List.getElem?_map, Array.getElem?_toList, Array.getElem?_modify] at h1 ⊢
    by_cases hj : i = j
    · subst hj
      rw [hmk, Array.getElem?_eq_getElem hie]
      simp
    · rw [if_neg hj]
      rw [h1]
      cases hmj : m[j]? with
      | none => rfl
      | some y =>
        have hy : ¬ y.1 = a := by
          intro e
          apply hj
          have hjl : j < m.length := (List.getElem?_eq_some_iff.1 hmj).1
          have e1 : (m.map (·.1))[i]'(by simpa using hik) = (m.map (·.1))[j]'(by simpa using hjl) := by
            have a1 := (List.getElem?_eq_some_iff.1 hmk).2
            have a2 := (List.getElem?_eq_some_iff.1 hmj).2
            simp [a1, a2, e]
          exact (List.getElem_inj hn).1 e1
        simp [hy]
  · have : (es.modify i fun e => { e with key := enc a, val := v }).toList.map (·.born) = es.toList.map (·.born) := by
      apply List.ext_getElem?
      intro j
      simp only [List.getElem?_map, Array.getElem?_toList, Array.getElem?_modify]
      by_cases hj : i = j
      · subst hj; cases es[i]? <;> simp
      · simp [hj]
    rw [this]; exact hbn
  · intro e he
    obtain ⟨j, hj⟩ := List.mem_iff_getElem?.1 he
    simp only [Array.getElem?_toList, Array.getElem?_modify] at hj
    by_cases hij : i = j
    · subst hij
      rw [if_pos rfl, Array.getElem?_eq_getElem hie] at hj
      simp at hj
      subst hj
      exact hbl es[i] (by simp)
    · rw [if_neg hij] at hj
      exact hbl e (List.mem_iff_getElem?.2 ⟨j, by simpa using hj⟩)
theorem EsIs.push {es : Array MapEntry} {clock : Nat} (h : EsIs enc es clock m) {a : K} (h0 : mget m a = none) (v : Value) :
    EsIs enc (es.push { key := enc a, val := v, born := clock }) (clock + 1) (mput m a v) := by
  obtain ⟨hm, hn, hbn, hbl⟩ := h
  refine ⟨?_, nodup_put m a v hn, ?_, ?_⟩
  · simp [mput, h0, hm]
  · simp only [Array.toList_push, List.map_append, List.map_cons, List.map_nil, List.nodup_append]
    refine ⟨hbn, by simp, ?_⟩
    intro x hx y hy e
    simp at hy
    obtain ⟨q, hq, hq2⟩ := List.mem_map.1 hx
    have := hbl q hq
    omega
  · intro e he
    simp only [Array.toList_push, List.mem_append, List.mem_singleton] at he
    rcases he with he | rfl
    · have := hbl e he; omega
    · simp
/-- The map in block b has an entry for a, made at st. -/
def EntAt (enc : K → Value) (w : World) (b : Nat) (m : List (K × Value)) (a : K) (st : Nat) : Prop :=
  ∃ (es : Array MapEntry) (clock i : Nat) (u : Value), w.heap[b]? = some (.map es clock) ∧ EsIs enc es clock m ∧ m[i]? = some (a, u) ∧ (es[i]?).map (·.born) = some st
omit [DecidableEq K] in
theorem EntAt.is {a : K} {st : Nat} (h : EntAt enc w b m a st) : MapIs enc w b m := by
  obtain ⟨es, clock, i, u, hb, ⟨h1, h2, h3, h4⟩, _⟩ := h
  exact ⟨es, clock, hb, h1, h2, h3, h4⟩
omit [DecidableEq K] in
theorem EntAt.chg {w' : World} {a : K} {st : Nat} {F : List Nat} (h : EntAt enc w b m a st) (hc : Chg F w w') (hF : b ∉ F) : EntAt enc w' b m a st := by
  obtain ⟨es, clock, i, u, hb, h⟩ := h
  exact ⟨es, clock, i, u, hc.at hb hF, h⟩
theorem EntAt.store {a : K} {st : Nat} (h : EntAt enc w b m a st) (v : Value) :
    ∃ o, (Instr.entryStore t (.map (some b)) (.int .i64 (st : Int)) v).run P w = .ok () (setMap w b o) ∧ MapIs enc (setMap w b o) b (mput m a v) := by
  obtain ⟨es, clock, i, u, hb, hE, hmk, hst⟩ := h
  have hget : (getObj b).run P w = .ok (.map es clock) w := by unfold getObj; simp only [Sem.run, hb]
  have hset : ∀ o, (setObj b o).run P w = .ok () (setMap w b o) := by intro o; unfold setObj; simp only [Sem.run, hb]; rfl
  have hlen : es.toList.length = m.length := by have := congrArg List.length hE.1; simpa using this
  have hik : i < m.length := (List.getElem?_eq_some_iff.1 hmk).1
  have hie : i < es.size := by have := hlen; simp only [Array.length_toList] at this; omega
  have hkey : (es[i]'hie).key = enc a := by
    have h1 := congrArg (fun l => l[i]?) hE.1
    simp only [List.getElem?_map, hmk, Option.map_some, Array.getElem?_toList, Array.getElem?_eq_getElem hie, Option.some.injEq, Prod.mk.injEq] at h1
    exact h1.1
  have hborn : (es[i]'hie).born = st := by rw [Array.getElem?_eq_getElem hie] at hst; simpa using hst
  have hfi : es.findIdx? (fun e => (e.born : Int) == (st : Int)) = some i := by
    rw [Array.findIdx?_eq_some_iff_getElem]
    refine ⟨hie, by simp [hborn], ?_⟩
    intro j hj
    have hjs : j < es.size := by omega
    simp only [beq_iff_eq, Int.natCast_inj, Bool.not_eq_true]
    intro e
    have hn := hE.2.2.1
    have e1 : (es.toList.map (·.born))[j]'(by simpa using hjs) = (es.toList.map (·.born))[i]'(by simpa using hie) := by simp [e, hborn]
    have := (List.getElem_inj hn).1 e1
    omega
  have hmo : (es.modify i fun e => { e with val := v }) = es.modify i fun e => { e with key := enc a, val := v } := by
    apply Array.ext_getElem?
    intro j
    simp only [Array.getElem?_modify]
    by_cases hj : i = j
    · subst hj
      rw [Array.getElem?_eq_getElem hie]
      simp [hkey]
    · simp [hj]
  have hM := hE.modi hmk v
  refine ⟨.map (es.modify i fun e => { e with key := enc a, val := v }) clock, ?_, ?_⟩
  · unfold Instr.entryStore
    simp only [Sem.run_bind, hget, Result.andThen_ok]
    have : (asInt (.int .i64 (st : Int))).run P w = .ok (st : Int) w := rfl
    simp only [this, Result.andThen_ok, hfi, hmo, hset]
  · exact ⟨_, _, setMap_at _ hb, hM.1, hM.2.1, hM.2.2.1, hM.2.2.2⟩
theorem MapIs.ent (h : MapIs enc w b m) (E : KeyEnc P kt enc) (ht : P.underlying t = some (.map kt et)) (hz : ∀ w, (zeroValue et).run P w = .ok z w) (a : K) :
    ∃ o st, (Instr.mapEntry t (.map (some b)) (enc a)).run P w = .ok (.tuple #[(mget m a).getD z, .int .i64 (st : Nat)]) (setMap w b o) ∧ EntAt enc (setMap w b o) b (mput m a ((mget m a).getD z)) a st := by
  obtain ⟨es, clock, hb, hE⟩ := h
  have hE : EsIs enc es clock m := hE
  have hm := hE.1
  have hget : (getObj b).run P w = .ok (.map es clock) w := by unfold getObj; simp only [Sem.run, hb]
  have hset : ∀ o, (setObj b o).run P w = .ok () (setMap w b o) := by intro o; unfold setObj; simp only [Sem.run, hb]; rfl
  have hlen : es.toList.length = m.length := by have := congrArg List.length hm; simpa using this
  cases hf : findIn a m 0 with
  | none =>
    have h0 : mget m a = none := by rw [← findIn_get a m 0, hf]; rfl
    refine ⟨.map (es.push { key := enc a, val := z, born := clock }) (clock + 1), clock, ?_, ?_⟩
    · unfold Instr.mapEntry
      simp only [Sem.run_bind, run_underlying ht w, Result.andThen_ok, hget, E.chk, run_findKey E a w es.toList m hm, hf, hz, hset, h0, Option.getD_none, Sem.run_pure]
      rfl
    · rw [h0, Option.getD_none]
      refine ⟨_, _, m.length, z, setMap_at _ hb, hE.push h0 z, ?_, ?_⟩
      · simp [mput, h0]
      · rw [← hlen, Array.length_toList]
        simp
  | some x =>
    obtain ⟨i, u⟩ := x
    obtain ⟨k, hk, hmk⟩ := findIn_some a m 0 i u hf
    have hk : i = k := by omega
    subst hk
    have hik : i < m.length := (List.getElem?_eq_some_iff.1 hmk).1
    have hie : i < es.size := by have := hlen; simp only [Array.length_toList] at this; omega
    have hekey : (es[i]'hie).key = enc a ∧ (es[i]'hie).val = u := by
      have h1 := congrArg (fun l => l[i]?) hm
      simp only [List.getElem?_map, hmk, Option.map_some, Array.getElem?_toList, Array.getElem?_eq_getElem hie, Option.some.injEq, Prod.mk.injEq] at h1
      exact h1
    have h0 : mget m a = some u := by rw [← findIn_get a m 0, hf]; rfl
    have hst : ∀ x, (Instr.keyThatStays (((es[i]?).map (·.key)).getD (enc a)) (enc a)).run P x = .ok (enc a) x := by
      intro x
      rw [Array.getElem?_eq_getElem hie]
      simp only [Option.map_some, Option.getD_some, hekey.1]
      unfold Instr.keyThatStays
      simp [E.bits a]
    have hmo : (es.modify i fun e => { e with key := enc a }) = es.modify i fun e => { e with key := enc a, val := u } := by
      apply Array.ext_getElem?
      intro j
      simp only [Array.getElem?_modify]
      by_cases hj : i = j
      · subst hj
        rw [Array.getElem?_eq_getElem hie]
        simp [hekey.2]
      · simp [hj]
    refine ⟨.map (es.modify i fun e => { e with key := enc a, val := u }) clock, (es[i]'hie).born, ?_, ?_⟩
    · unfold Instr.mapEntry
      simp only [Sem.run_bind, run_underlying ht w, Result.andThen_ok, hget, E.chk, run_findKey E a w es.toList m hm, hf, hst, hmo, hset, h0, Option.getD_some, Sem.run_pure]
      rw [Array.getElem?_eq_getElem hie]
      rfl
    · rw [h0, Option.getD_some]
      refine ⟨_, _, i, u, setMap_at _ hb, hE.modi hmk u, ?_, ?_⟩
      · unfold mput
        rw [h0]
        simp only [Option.isSome_some, if_true, List.getElem?_map, hmk, Option.map_some]
      · rw [Array.getElem?_modify, if_pos rfl, Array.getElem?_eq_getElem hie]
        rfl
end
end Go.Proofs.Ytonppfebmeehcaa

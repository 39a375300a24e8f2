/- Maps as lists of keys and values, in the order of their entries; what lookup, update, delete and len do. Nothing of a program. -/
import Derived.Test.YtnodjlgihhinpaaDoorBase
namespace Go.Proofs.YtnodjlgihhinpaaDoor
open Go.RowKit
set_option linter.unusedVariables false
set_option linter.unusedSimpArgs false

/-- Keys of type kt are told apart by what they are. -/
structure KeyEnc {K : Type} [DecidableEq K] (P : Program) (kt : TypeId) (enc : K → Value) : Prop where
  desc : ∃ d, P.underlying kt = some d ∧ ∀ a b, Instr.sameNow d (enc a) (enc b) = none ∨ Instr.sameNow d (enc a) (enc b) = some (decide (a = b))
  eq : ∀ a b w, (Op.equal kt (enc a) (enc b)).run P w = .ok (decide (a = b)) w
  chk : ∀ e a w, (Instr.checkKey e 10000 kt (enc a)).run P w = .ok () w
  bits : ∀ a, Instr.sameBits 10000 (enc a) (enc a) = true
  inj : ∀ a b, enc a = enc b → a = b

section
variable {K : Type} [DecidableEq K]

def mget (m : List (K × Value)) (a : K) : Option Value := (m.find? (fun x => decide (x.1 = a))).map (·.2)
def mput (m : List (K × Value)) (a : K) (v : Value) : List (K × Value) :=
  if (mget m a).isSome then m.map (fun x => if x.1 = a then (a, v) else x) else m ++ [(a, v)]
def mdel (m : List (K × Value)) (a : K) : List (K × Value) := m.filter (fun x => decide (x.1 ≠ a))

/-- Block b is a map with these keys and values. -/
def MapIs (enc : K → Value) (w : World) (b : Nat) (m : List (K × Value)) : Prop :=
  ∃ es clock, w.heap[b]? = some (.map es clock) ∧ es.toList.map (fun e => (e.key, e.val)) = m.map (fun x => (enc x.1, x.2)) ∧ (m.map (·.1)).Nodup ∧
    (es.toList.map (·.born)).Nodup ∧ ∀ e ∈ es.toList, e.born < clock

omit [DecidableEq K] in
theorem MapIs.lt {enc : K → Value} {w : World} {b : Nat} {m : List (K × Value)} (h : MapIs enc w b m) : b < w.heap.size := by
  obtain ⟨es, clock, hb, _⟩ := h; exact blk_lt hb
omit [DecidableEq K] in
theorem MapIs.chg {enc : K → Value} {w w' : World} {b : Nat} {m : List (K × Value)} {F : List Nat} (h : MapIs enc w b m) (hc : Chg F w w') (hF : b ∉ F) : MapIs enc w' b m := by
  obtain ⟨es, clock, hb, h⟩ := h; exact ⟨es, clock, hc.at hb hF, h⟩
omit [DecidableEq K] in
theorem MapIs.new (enc : K → Value) (w : World) : MapIs enc (w.alloc (.map #[] 0)) w.heap.size [] := ⟨#[], 0, blk_new w _, rfl, by simp, by simp, by simp⟩

def findIn (a : K) : List (K × Value) → Nat → Option (Nat × Value)
  | [], _ => none
  | x :: t, i => if a = x.1 then some (i, x.2) else findIn a t (i + 1)

theorem map_eraseIdx' {α β : Type} (f : α → β) : ∀ (l : List α) (i : Nat), (l.eraseIdx i).map f = (l.map f).eraseIdx i := by
  intro l
  induction l with
  | nil => intro i; rfl
  | cons x l ih => intro i; cases i with
    | zero => rfl
    | succ i => simp [ih]

theorem findIn_get (a : K) : ∀ (m : List (K × Value)) (i : Nat), (findIn a m i).map (·.2) = mget m a := by
  intro m
  induction m with
  | nil => intro i; rfl
  | cons x t ih =>
    intro i
    by_cases h : a = x.1
    · simp [findIn, mget, List.find?_cons, h]
    · have h' : ¬ x.1 = a := fun e => h e.symm
      have := ih (i + 1)
      simp only [mget] at this ⊢
      simp [findIn, h, List.find?_cons, h', this]

theorem findIn_some (a : K) : ∀ (m : List (K × Value)) (i j : Nat) (v : Value), findIn a m i = some (j, v) → ∃ k, j = i + k ∧ m[k]? = some (a, v) := by
  intro m
  induction m with
  | nil => intro i j v h; simp [findIn] at h
  | cons x t ih =>
    intro i j v h
    by_cases hx : a = x.1
    · rw [findIn, if_pos hx] at h
      simp at h
      exact ⟨0, by omega, by simp [hx, ← h.2]⟩
    · rw [findIn, if_neg hx] at h
      obtain ⟨k, hk, hm⟩ := ih _ _ _ h
      exact ⟨k + 1, by omega, by simpa using hm⟩

theorem findIn_none (a : K) : ∀ (m : List (K × Value)) (i : Nat), findIn a m i = none → ∀ x ∈ m, x.1 ≠ a := by
  intro m
  induction m with
  | nil => intro i _ x hx; simp at hx
  | cons y t ih =>
    intro i h x hx
    by_cases hy : a = y.1
    · rw [findIn, if_pos hy] at h; simp at h
    · rw [findIn, if_neg hy] at h
      rcases List.mem_cons.1 hx with rfl | hx
      · exact fun e => hy e.symm
      · exact ih _ h x hx

variable {P : Program} {kt : TypeId} {enc : K → Value}

theorem run_findAsking (E : KeyEnc P kt enc) (a : K) (w : World) : ∀ (es : List MapEntry) (m : List (K × Value)) (i : Nat), es.map (fun e => (e.key, e.val)) = m.map (fun x => (enc x.1, x.2)) →
    (Instr.findAsking kt (enc a) es i).run P w = .ok (findIn a m i) w := by
  intro es
  induction es with
  | nil => intro m i h; cases m with
    | nil => rfl
    | cons _ _ => simp at h
  | cons e es ih =>
    intro m i h
    cases m with
    | nil => simp at h
    | cons x t =>
      simp only [List.map_cons, List.cons.injEq, Prod.mk.injEq] at h
      obtain ⟨⟨hk, hv⟩, ht⟩ := h
      unfold Instr.findAsking
      simp only [Sem.run_bind, hk, E.eq a x.1 w, Result.andThen_ok]
      by_cases hx : a = x.1
      · simp [hx, findIn, hv]
      · simp [hx, findIn, ih t (i + 1) ht]

theorem findNow_or {d : TypeDesc} (hd : ∀ a b, Instr.sameNow d (enc a) (enc b) = none ∨ Instr.sameNow d (enc a) (enc b) = some (decide (a = b))) (a : K) :
    ∀ (es : List MapEntry) (m : List (K × Value)) (i : Nat), es.map (fun e => (e.key, e.val)) = m.map (fun x => (enc x.1, x.2)) →
    Instr.findNow d (enc a) es i = none ∨ Instr.findNow d (enc a) es i = some (findIn a m i) := by
  intro es
  induction es with
  | nil => intro m i h; cases m with
    | nil => exact .inr rfl
    | cons _ _ => simp at h
  | cons e es ih =>
    intro m i h
    cases m with
    | nil => simp at h
    | cons x t =>
      simp only [List.map_cons, List.cons.injEq, Prod.mk.injEq] at h
      obtain ⟨⟨hk, hv⟩, ht⟩ := h
      unfold Instr.findNow
      rw [hk]
      rcases hd a x.1 with h0 | h0
      · left; rw [h0]
      · rw [h0]
        by_cases hx : a = x.1
        · right; simp [hx, findIn, hv]
        · simpa [hx, findIn] using ih t (i + 1) ht

theorem run_findKey (E : KeyEnc P kt enc) (a : K) (w : World) (es : List MapEntry) (m : List (K × Value)) (h : es.map (fun e => (e.key, e.val)) = m.map (fun x => (enc x.1, x.2))) :
    (Instr.findKey kt (enc a) es).run P w = .ok (findIn a m 0) w := by
  obtain ⟨d, hd, hs⟩ := E.desc
  unfold Instr.findKey
  simp only [Sem.run_bind, run_underlying hd w, Result.andThen_ok]
  rcases findNow_or hs a es m 0 h with h0 | h0
  · rw [h0]; exact run_findAsking E a w es m 0 h
  · rw [h0]; rfl

variable {t et : TypeId} {z : Value} {w : World} {b : Nat} {m : List (K × Value)}

theorem MapIs.look (h : MapIs enc w b m) (E : KeyEnc P kt enc) (ht : P.underlying t = some (.map kt et)) (hz : ∀ w, (zeroValue et).run P w = .ok z w) (a : K) (c : Bool) :
    (Instr.lookup t (.map (some b)) (enc a) c).run P w = .ok (if c then .tuple #[(mget m a).getD z, .bool (mget m a).isSome] else (mget m a).getD z) w := by
  obtain ⟨es, clock, hb, hm, hn, _⟩ := h
  have hg : ∀ r, findIn a m 0 = r → mget m a = r.map (·.2) := fun r hr => by rw [← findIn_get a m 0, hr]
  unfold Instr.lookup
  simp only [Sem.run_bind, run_underlying ht w, Result.andThen_ok]
  have hget : (getObj b).run P w = .ok (.map es clock) w := by
    unfold getObj
    simp only [Sem.run, hb]
  simp only [hget, Result.andThen_ok, Sem.run_bind, Sem.run_pure, E.chk, run_findKey E a w es.toList m hm]
  cases hf : findIn a m 0 with
  | none => simp [hz, hg _ hf]
  | some x => cases x; simp [hg _ hf]

theorem look_nil (E : KeyEnc P kt enc) (ht : P.underlying t = some (.map kt et)) (hz : ∀ w, (zeroValue et).run P w = .ok z w) (a : K) (c : Bool) :
    (Instr.lookup t (.map none) (enc a) c).run P w = .ok (if c then .tuple #[z, .bool false] else z) w := by
  unfold Instr.lookup
  simp only [Sem.run_bind, run_underlying ht w, Result.andThen_ok, Sem.run_pure, E.chk, run_findKey E a w [] [] rfl]
  simp [findIn, hz]

theorem mget_put (m : List (K × Value)) (a a' : K) (v : Value) : mget (mput m a v) a' = if a' = a then some v else mget m a' := by
  unfold mput
  split
  · rename_i hs
    by_cases h : a' = a
    · subst h
      rw [if_pos rfl]
      unfold mget at hs ⊢
      induction m with
      | nil => simp at hs
      | cons x l ih =>
        by_cases hx : x.1 = a'
        · simp [List.find?_cons, hx]
        · simp only [List.map_cons, hx, if_false, List.find?_cons, decide_false] at hs ⊢
          exact ih hs
    · rw [if_neg h]
      unfold mget
      induction m with
      | nil => rfl
      | cons x l ih =>
        by_cases hs' : (mget l a).isSome
        · have := ih hs'
          by_cases hx : x.1 = a
          · have h2 : ¬ a = a' := fun e => h e.symm
            simp only [List.map_cons, hx, if_true, List.find?_cons, h2, decide_false]
            exact this
          · by_cases hx' : x.1 = a'
            · subst hx'
              simp [hx]
            · simp only [List.map_cons, hx, if_false, List.find?_cons, hx', decide_false]
              exact this
        · have hl : ∀ y ∈ l, y.1 ≠ a := by
            intro y hy e
            apply hs'
            unfold mget
            rw [Option.isSome_map, List.find?_isSome]
            exact ⟨y, hy, by simp [e]⟩
          have he : l.map (fun x => if x.1 = a then (a, v) else x) = l := by
            conv => rhs; rw [← List.map_id l]
            exact List.map_congr_left (fun y hy => by simp [hl y hy])
          by_cases hx : x.1 = a
          · have h2 : ¬ a = a' := fun e => h e.symm
            simp [List.find?_cons, hx, h2, he]
          · simp [hx, he]
  · rename_i hs
    have hs : mget m a = none := by simpa using hs
    by_cases h : a' = a
    · subst h
      rw [if_pos rfl]
      unfold mget at hs ⊢
      rw [Option.map_eq_none_iff] at hs
      rw [List.find?_append, hs]
      simp
    · rw [if_neg h]
      unfold mget
      have h2 : ¬ a = a' := fun e => h e.symm
      rw [List.find?_append]
      simp [h2]

theorem mget_del (m : List (K × Value)) (a a' : K) : mget (mdel m a) a' = if a' = a then none else mget m a' := by
  unfold mdel mget
  induction m with
  | nil => simp
  | cons x l ih =>
    by_cases hx : x.1 = a
    · rw [List.filter_cons_of_neg (by simp [hx]), ih]
      by_cases h : a' = a
      · simp [h]
      · have h2 : ¬ a = a' := fun e => h e.symm
        simp [h, List.find?_cons, hx, h2]
    · rw [List.filter_cons_of_pos (by simp [hx])]
      simp only [List.find?_cons]
      by_cases hx' : x.1 = a'
      · have : ¬ a' = a := fun e => hx (hx'.trans e)
        simp [hx', this]
      · simp only [hx', decide_false]
        exact ih

theorem mget_none_iff (m : List (K × Value)) (a : K) : mget m a = none ↔ ∀ x ∈ m, x.1 ≠ a := by
  unfold mget
  simp [List.find?_eq_none]

theorem mget_mem {m : List (K × Value)} {a : K} {v : Value} (h : mget m a = some v) : (a, v) ∈ m := by
  unfold mget at h
  rw [Option.map_eq_some_iff] at h
  obtain ⟨x, hx, rfl⟩ := h
  have h1 := List.find?_some hx
  have h2 := List.mem_of_find?_eq_some hx
  simp at h1
  subst h1
  exact h2

theorem mget_of_mem {m : List (K × Value)} {a : K} {v : Value} (hn : (m.map (·.1)).Nodup) (h : (a, v) ∈ m) : mget m a = some v := by
  induction m with
  | nil => simp at h
  | cons x l ih =>
    simp only [List.map_cons, List.nodup_cons] at hn
    rcases List.mem_cons.1 h with rfl | h
    · simp [mget]
    · have hx : ¬ x.1 = a := fun e => hn.1 (List.mem_map.2 ⟨(a, v), h, by simp [e]⟩)
      have := ih hn.2 h
      unfold mget at this ⊢
      simpa [List.find?_cons, hx] using this

theorem keys_put (m : List (K × Value)) (a : K) (v : Value) : (mput m a v).map (·.1) = if (mget m a).isSome then m.map (·.1) else m.map (·.1) ++ [a] := by
  unfold mput
  split
  · rw [List.map_map]
    exact List.map_congr_left (fun x _ => by by_cases h : x.1 = a <;> simp [h])
  · simp

theorem nodup_put (m : List (K × Value)) (a : K) (v : Value) (h : (m.map (·.1)).Nodup) : ((mput m a v).map (·.1)).Nodup := by
  rw [keys_put]
  split
  · exact h
  · rename_i hs
    have hs : mget m a = none := by simpa using hs
    rw [mget_none_iff] at hs
    rw [List.nodup_append]
    refine ⟨h, by simp, ?_⟩
    intro x hx y hy e
    simp at hy
    subst hy
    obtain ⟨z, hz, hz2⟩ := List.mem_map.1 hx
    exact hs z hz (hz2.trans e)

theorem nodup_del (m : List (K × Value)) (a : K) (h : (m.map (·.1)).Nodup) : ((mdel m a).map (·.1)).Nodup :=
  List.Sublist.nodup (List.Sublist.map _ (List.filter_sublist)) h

theorem length_del (m : List (K × Value)) (a : K) (h : (m.map (·.1)).Nodup) : (mdel m a).length = if (mget m a).isSome then m.length - 1 else m.length := by
  induction m with
  | nil => simp [mdel, mget]
  | cons x l ih =>
    simp only [List.map_cons, List.nodup_cons] at h
    by_cases hx : x.1 = a
    · have hl : mdel l a = l := by
        unfold mdel
        rw [List.filter_eq_self]
        intro y hy
        simp only [decide_eq_true_eq]
        intro e
        exact h.1 (List.mem_map.2 ⟨y, hy, by rw [e, hx]⟩)
      unfold mdel at hl ⊢
      rw [List.filter_cons_of_neg (by simp [hx]), hl]
      simp [mget, hx]
    · have := ih h.2
      have h3 : mget (x :: l) a = mget l a := by simp [mget, List.find?_cons, hx]
      rw [h3]
      unfold mdel at this ⊢
      rw [List.filter_cons_of_pos (by simp [hx]), List.length_cons, this]
      split
      · rename_i hs
        have : 0 < l.length := by
          cases l with
          | nil => simp [mget] at hs
          | cons _ _ => simp
        simp; omega
      · simp

/-- What is left of a map's block behind a write. -/
def setMap (w : World) (b : Nat) (o : Obj) : World := { w with heap := w.heap.setIfInBounds b o }

theorem setMap_chg (w : World) (b : Nat) (o : Obj) : Chg [b] w (setMap w b o) :=
  ⟨rfl, rfl, rfl, by simp [setMap], fun k _ hk => by simp only [setMap]; rw [Array.getElem?_setIfInBounds_ne (fun e => hk (by simp [e]))]⟩
theorem setMap_at {w : World} {b : Nat} {o : Obj} (o' : Obj) (h : w.heap[b]? = some o) : (setMap w b o').heap[b]? = some o' := by
  simp [setMap, blk_lt h]

theorem MapIs.upd (h : MapIs enc w b m) (E : KeyEnc P kt enc) (ht : P.underlying t = some (.map kt et)) (a : K) (v : Value) :
    ∃ o, (Instr.mapUpdate t (.map (some b)) (enc a) v).run P w = .ok () (setMap w b o) ∧ MapIs enc (setMap w b o) b (mput m a v) := by
  obtain ⟨es, clock, hb, hm, hn, hbn, hbl⟩ := h
  have hget : (getObj b).run P w = .ok (.map es clock) w := by unfold getObj; simp only [Sem.run, hb]
  have hset : ∀ o, (setObj b o).run P w = .ok () (setMap w b o) := by intro o; unfold setObj; simp only [Sem.run, hb]; rfl
  cases hf : findIn a m 0 with
  | none =>
    refine ⟨.map (es.push { key := enc a, val := v, born := clock }) (clock + 1), ?_, ?_⟩
    · unfold Instr.mapUpdate
      simp only [Sem.run_bind, run_underlying ht w, Result.andThen_ok, hget, E.chk, run_findKey E a w es.toList m hm, hf, hset]
    · have h0 : mget m a = none := by rw [← findIn_get a m 0, hf]; rfl
      refine ⟨_, _, setMap_at _ hb, ?_, nodup_put m a v hn, ?_, ?_⟩
      · simp [mput, h0, hm]
      · simp only [Array.toList_push, List.map_append, List.map_cons, List.map_nil, List.nodup_append]
        refine ⟨hbn, by simp, ?_⟩
        intro x hx y hy e
        simp at hy
        obtain ⟨q, hq, hq2⟩ := List.mem_map.1 hx
        have := hbl q hq
        omega
      · intro e he
        simp only [Array.toList_push, List.mem_append, List.mem_singleton] at he
        rcases he with he | rfl
        · have := hbl e he; omega
        · simp
  | some x =>
    obtain ⟨i, u⟩ := x
    obtain ⟨k, hk, hmk⟩ := findIn_some a m 0 i u hf
    have hk : i = k := by omega
    subst hk
    have hlen : es.toList.length = m.length := by have := congrArg List.length hm; simpa using this
    have hik : i < m.length := (List.getElem?_eq_some_iff.1 hmk).1
    have hie : i < es.size := by have := hlen; simp only [Array.length_toList] at this; omega
    have hekey : (es[i]'hie).key = enc a ∧ (es[i]'hie).val = u := by
      have h1 := congrArg (fun l => l[i]?) hm
      simp only [List.getElem?_map, hmk, Option.map_some, Array.getElem?_toList, Array.getElem?_eq_getElem hie, Option.some.injEq, Prod.mk.injEq] at h1
      exact h1
    refine ⟨.map (es.modify i fun e => { e with key := enc a, val := v }) clock, ?_, ?_⟩
    · unfold Instr.mapUpdate
      simp only [Sem.run_bind, run_underlying ht w, Result.andThen_ok, hget, E.chk, run_findKey E a w es.toList m hm, hf]
      have hst : ∀ x, (Instr.keyThatStays (((es[i]?).map (·.key)).getD (enc a)) (enc a)).run P x = .ok (enc a) x := by
        intro x
        rw [Array.getElem?_eq_getElem hie]
        simp only [Option.map_some, Option.getD_some, hekey.1]
        unfold Instr.keyThatStays
        simp [E.bits a]
      simp only [hst, Result.andThen_ok, hset]
    · have h0 : mget m a = some u := by rw [← findIn_get a m 0, hf]; rfl
      refine ⟨_, _, setMap_at _ hb, ?_, nodup_put m a v hn, ?_, ?_⟩
      · unfold mput
        rw [h0]
        simp only [Option.isSome_some, if_true]
        apply List.ext_getElem?
        intro j
        have h1 := congrArg (fun l => l[j]?) hm
        simp only [List.getElem?_map, Array.getElem?_toList, Array.getElem?_modify] at h1 ⊢
        by_cases hj : i = j
        · subst hj
          rw [hmk, Array.getElem?_eq_getElem hie]
          simp
        · rw [if_neg hj]
          rw [h1]
          cases hmj : m[j]? with
          | none => rfl
          | some y =>
            have hy : ¬ y.1 = a := by
              intro e
              apply hj
              have hjl : j < m.length := (List.getElem?_eq_some_iff.1 hmj).1
              have e1 : (m.map (·.1))[i]'(by simpa using hik) = (m.map (·.1))[j]'(by simpa using hjl) := by
                have a1 := (List.getElem?_eq_some_iff.1 hmk).2
                have a2 := (List.getElem?_eq_some_iff.1 hmj).2
                simp [a1, a2, e]
              exact (List.getElem_inj hn).1 e1
            simp [hy]
      · have : (es.modify i fun e => { e with key := enc a, val := v }).toList.map (·.born) = es.toList.map (·.born) := by
          apply List.ext_getElem?
          intro j
          simp only [List.getElem?_map, Array.getElem?_toList, Array.getElem?_modify]
          by_cases hj : i = j
          · subst hj; cases es[i]? <;> simp
          · simp [hj]
        rw [this]; exact hbn
      · intro e he
        obtain ⟨j, hj⟩ := List.mem_iff_getElem?.1 he
        simp only [Array.getElem?_toList, Array.getElem?_modify] at hj
        by_cases hij : i = j
        · subst hij
          rw [if_pos rfl, Array.getElem?_eq_getElem hie] at hj
          simp at hj
          subst hj
          exact hbl es[i] (by simp)
        · rw [if_neg hij] at hj
          exact hbl e (List.mem_iff_getElem?.2 ⟨j, by simpa using hj⟩)

theorem MapIs.del (h : MapIs enc w b m) (E : KeyEnc P kt enc) (ht : P.underlying t = some (.map kt et)) (a : K) (ty : TypeId) :
    ∃ o, (Builtin.delete_ #[t, kt] ty #[.map (some b), enc a]).run P w = .ok (.tuple #[]) (setMap w b o) ∧ MapIs enc (setMap w b o) b (mdel m a) := by
  obtain ⟨es, clock, hb, hm, hn, hbn, hbl⟩ := h
  have hget : (getObj b).run P w = .ok (.map es clock) w := by unfold getObj; simp only [Sem.run, hb]
  have hset : ∀ o, (setObj b o).run P w = .ok () (setMap w b o) := by intro o; unfold setObj; simp only [Sem.run, hb]; rfl
  cases hf : findIn a m 0 with
  | none =>
    refine ⟨.map es clock, ?_, ?_⟩
    · unfold Builtin.delete_
      simp [run_underlying ht w, hget, E.chk, run_findKey E a w es.toList m hm, hf, hset]
    · have h0 := findIn_none a m 0 hf
      have : mdel m a = m := by unfold mdel; rw [List.filter_eq_self]; intro x hx; simpa using h0 x hx
      rw [this]
      exact ⟨_, _, setMap_at _ hb, hm, hn, hbn, hbl⟩
  | some x =>
    obtain ⟨i, u⟩ := x
    obtain ⟨k, hk, hmk⟩ := findIn_some a m 0 i u hf
    have hk : i = k := by omega
    subst hk
    have hlen : es.toList.length = m.length := by have := congrArg List.length hm; simpa using this
    have hik : i < m.length := (List.getElem?_eq_some_iff.1 hmk).1
    have hdel : mdel m a = m.eraseIdx i := by
      unfold mdel
      clear hf hlen hm hk
      induction m generalizing i with
      | nil => simp at hik
      | cons y l ih =>
        simp only [List.map_cons, List.nodup_cons] at hn
        cases i with
        | zero =>
          simp at hmk
          subst hmk
          rw [List.filter_cons_of_neg (by simp), List.eraseIdx_cons_zero, List.filter_eq_self]
          intro z hz
          simp only [decide_eq_true_eq]
          intro e
          exact hn.1 (List.mem_map.2 ⟨z, hz, e⟩)
        | succ i =>
          simp at hmk hik
          have hy : ¬ y.1 = a := fun e => hn.1 (List.mem_map.2 ⟨(a, u), List.mem_of_getElem? hmk, by simp [e]⟩)
          rw [List.filter_cons_of_pos (by simp [hy]), List.eraseIdx_cons_succ, ih hn.2 i hmk hik]
    refine ⟨.map (es.eraseIdxIfInBounds i) clock, ?_, ?_⟩
    · unfold Builtin.delete_
      simp [run_underlying ht w, hget, E.chk, run_findKey E a w es.toList m hm, hf, hset]
    · have he : (es.eraseIdxIfInBounds i).toList = es.toList.eraseIdx i := by simp
      refine ⟨_, _, setMap_at _ hb, ?_, nodup_del m a hn, ?_, ?_⟩
      · rw [hdel, he, map_eraseIdx', map_eraseIdx', hm]
      · rw [he, map_eraseIdx']
        exact List.Sublist.nodup (List.eraseIdx_sublist _ _) hbn
      · intro e hx
        rw [he] at hx
        exact hbl e (List.mem_of_mem_eraseIdx hx)

omit [DecidableEq K] in
theorem MapIs.len (h : MapIs enc w b m) (ht : P.underlying t = some (.map kt et)) (ty : TypeId) :
    (Builtin.len_ #[t] ty #[.map (some b)]).run P w = .ok (.int .i64 m.length) w := by
  obtain ⟨es, clock, hb, hm, _⟩ := h
  have hlen : es.toList.length = m.length := by have := congrArg List.length hm; simpa using this
  have hget : (getObj b).run P w = .ok (.map es clock) w := by unfold getObj; simp only [Sem.run, hb]
  have : es.size = m.length := by simpa using hlen
  unfold Builtin.len_
  simp [run_underlying ht w, hget, goInt, this]
end
end Go.Proofs.YtnodjlgihhinpaaDoor

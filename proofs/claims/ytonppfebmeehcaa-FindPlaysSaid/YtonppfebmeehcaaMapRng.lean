/- A range over a map, under way: which keys have come, which are still to come. Nothing of a program. -/
import Derived.Test.YtonppfebmeehcaaMapEnt
import Derived.Sort.MapsRangeIn
namespace Go.Proofs.Ytonppfebmeehcaa
open Go.RowKit
set_option linter.unusedVariables false
set_option linter.unusedSimpArgs false

theorem filter_born {e : MapEntry} : ∀ {l : List MapEntry} {i : Nat}, (l.map (·.born)).Nodup → l[i]? = some e → l.filter (fun x => !(x.born == e.born)) = l.eraseIdx i := by
  intro l
  induction l with
  | nil => intro i _ h; simp at h
  | cons x l ih =>
    intro i hn h
    simp only [List.map_cons, List.nodup_cons] at hn
    cases i with
    | zero =>
      simp at h
      subst h
      rw [List.filter_cons_of_neg (by simp), List.eraseIdx_cons_zero, List.filter_eq_self]
      intro y hy
      simp only [Bool.not_eq_true', beq_eq_false_iff_ne]
      intro e1
      exact hn.1 (List.mem_map.2 ⟨y, hy, e1⟩)
    | succ i =>
      simp at h
      have hx : ¬ x.born = e.born := fun e1 => hn.1 (List.mem_map.2 ⟨e, List.mem_of_getElem? h, e1.symm⟩)
      rw [List.filter_cons_of_pos (by simp [hx]), List.eraseIdx_cons_succ, ih hn.2 h]

theorem erase_perm {α : Type} : ∀ {l : List α} {i : Nat} (h : i < l.length), (l[i] :: l.eraseIdx i).Perm l := by
  intro l
  induction l with
  | nil => intro i h; simp at h
  | cons x l ih =>
    intro i h
    cases i with
    | zero => simp
    | succ i =>
      have := ih (i := i) (by simpa using h)
      simp only [List.getElem_cons_succ, List.eraseIdx_cons_succ]
      exact (List.Perm.swap _ _ _).trans (List.Perm.cons x this)

section
variable {K : Type} [DecidableEq K] {P : Program} {kt et t : TypeId} {enc : K → Value} {w : World} {b r : Nat} {m : List (K × Value)} {pre : List K} {cnt : Nat}
/-- The range in block r over the map m in block b: pre has come, cnt keys are still to come. -/
def RngIs (enc : K → Value) (w : World) (b r : Nat) (m : List (K × Value)) (pre : List K) (cnt : Nat) : Prop :=
  ∃ es clock since seen c0, ∃ left : List K, w.heap[b]? = some (.map es clock) ∧ EsIs enc es clock m ∧ w.heap[r]? = some (.mapIter (some b) since seen c0) ∧ (∀ e ∈ es.toList, e.born < since) ∧ since ≤ c0 ∧ since ≤ clock ∧
    (leftOf es seen).toList.map (·.key) = left.map enc ∧ left.length = cnt ∧ (pre ++ left).Perm (m.map (·.1))
/-- How many are still to come. -/
def rngLeft (w : World) (b r : Nat) : Nat := w.rangeLeft b r
omit [DecidableEq K] in
theorem RngIs.left (h : RngIs enc w b r m pre cnt) : rngLeft w b r = cnt := by
  obtain ⟨es, clock, since, seen, c0, left, hb, hE, hr, h1, h2, h2', h3, h4, h5⟩ := h
  unfold rngLeft World.rangeLeft
  rw [hb, hr]
  have := congrArg List.length h3
  simp at this
  simpa [← h4] using this
omit [DecidableEq K] in
theorem RngIs.map (h : RngIs enc w b r m pre cnt) : MapIs enc w b m := by
  obtain ⟨es, clock, since, seen, c0, left, hb, ⟨q1, q2, q3, q4⟩, hr, h1, h2, h3, h4, h5⟩ := h
  exact ⟨es, clock, hb, q1, q2, q3, q4⟩
omit [DecidableEq K] in
theorem RngIs.rest (h : RngIs enc w b r m pre cnt) : ∃ rest, (pre ++ rest).Perm (m.map (·.1)) := by
  obtain ⟨es, clock, since, seen, c0, left, hb, _, hr, h1, h2, h3, h4, h5, h6⟩ := h
  exact ⟨left, h6⟩
omit [DecidableEq K] in
theorem RngIs.chg {w' : World} {F : List Nat} (h : RngIs enc w b r m pre cnt) (hc : Chg F w w') (hb : b ∉ F) (hr : r ∉ F) : RngIs enc w' b r m pre cnt := by
  obtain ⟨es, clock, since, seen, c0, left, hb', hE, hr', h⟩ := h
  exact ⟨es, clock, since, seen, c0, left, hc.at hb' hb, hE, hc.at hr' hr, h⟩
omit [DecidableEq K] in
theorem RngIs.lt (h : RngIs enc w b r m pre cnt) : r < w.heap.size ∧ b < w.heap.size := by
  obtain ⟨es, clock, since, seen, c0, left, hb', hE, hr', h⟩ := h
  exact ⟨blk_lt hr', blk_lt hb'⟩
omit [DecidableEq K] in
theorem RngIs.ne (h : RngIs enc w b r m pre cnt) : r ≠ b := by
  obtain ⟨es, clock, since, seen, c0, left, hb', hE, hr', h⟩ := h
  intro e
  rw [e, hb'] at hr'
  cases hr'
omit [DecidableEq K] in
theorem MapIs.keys (h : MapIs enc w b m) : (m.map (·.1)).Nodup := by
  obtain ⟨es, clock, hb, q1, q2, q3, q4⟩ := h; exact q2
omit [DecidableEq K] in
theorem MapIs.range (h : MapIs enc w b m) (ht : P.underlying t = some (.map kt et)) :
    ∃ w', (Instr.range t (.map (some b))).run P w = .ok (.pointer (some ⟨w.heap.size, 0, none⟩)) w' ∧ RngIs enc w' b w.heap.size m [] m.length ∧ Chg [] w w' ∧ w'.heap.size = w.heap.size + 1 := by
  obtain ⟨es, clock, hb, hE⟩ := h
  have hl : (leftOf es #[]) = es := by unfold leftOf; simp
  refine ⟨_, run_range_map w t kt et b es clock ht hb, ⟨es, clock, clock, #[], clock, m.map (·.1), blk_alloc hb _, hE, blk_new w _, hE.2.2.2, Nat.le_refl _, Nat.le_refl _, ?_, by simp, by simp⟩, (Chg.refl _ _).alloc _, by simp⟩
  rw [hl]
  have := congrArg (List.map Prod.fst) hE.1
  rw [List.map_map, List.map_map] at this
  rw [List.map_map]
  exact this
theorem RngIs.next (h : RngIs enc w b r m pre cnt) (E : KeyEnc P kt enc) (ty : TypeId) :
    (cnt = 0 ∧ pre.Perm (m.map (·.1)) ∧ (Instr.next (.pointer (some ⟨r, 0, none⟩)) false ty).run P w = .ok (.tuple #[.bool false]) w) ∨
    ∃ k v w', (k, v) ∈ m ∧ k ∉ pre ∧ (Instr.next (.pointer (some ⟨r, 0, none⟩)) false ty).run P w = .ok (.tuple #[.bool true, enc k, v]) w' ∧ RngIs enc w' b r m (pre ++ [k]) (cnt - 1) ∧ 0 < cnt ∧ Chg [r] w w' ∧ w'.heap.size = w.heap.size ∧
      (Instr.entry (.pointer (some ⟨r, 0, none⟩))).run P w' = .ok (.tuple #[enc k, v]) w' := by
  have hne := h.ne
  obtain ⟨es, clock, since, seen, c0, left, hb, hE, hr, hold, hsc, hsk, hleft, hlen, hperm⟩ := h
  rcases run_next_at (P := P) w ty r b since c0 seen es clock hr hb hold hsc with ⟨h0, hrun⟩ | ⟨e, he, w1, hw1, hrun⟩
  · left
    have h1 : (leftOf es seen).toList = [] := List.eq_nil_of_length_eq_zero (by simpa using h0)
    rw [h1] at hleft
    have h2 : left = [] := by simpa using hleft.symm
    subst h2
    exact ⟨by simpa using hlen.symm, by simpa using hperm, hrun⟩
  · right
    obtain ⟨i, hi⟩ := List.mem_iff_getElem?.1 he
    have hii : i < (leftOf es seen).toList.length := (List.getElem?_eq_some_iff.1 hi).1
    have hlL : (leftOf es seen).toList.length = left.length := by have := congrArg List.length hleft; simpa using this
    have hil : i < left.length := by omega
    have hkey : e.key = enc left[i] := by
      have := congrArg (fun l => l[i]?) hleft
      simp only [List.getElem?_map, hi, Option.map_some, List.getElem?_eq_getElem hil] at this
      exact Option.some.inj this
    have hem := (mem_left he).1
    have hmm : (left[i], e.val) ∈ m := by
      have : (e.key, e.val) ∈ m.map (fun x => (enc x.1, x.2)) := by rw [← hE.1]; exact List.mem_map.2 ⟨e, hem, rfl⟩
      obtain ⟨x, hx, hxe⟩ := List.mem_map.1 this
      injection hxe with e1 e2
      have := E.inj _ _ (e1.trans hkey)
      rw [← this, ← e2]; exact hx
    have hnd : ((leftOf es seen).toList.map (·.born)).Nodup := by
      refine List.Sublist.nodup (List.Sublist.map _ ?_) hE.2.2.1
      unfold leftOf
      rw [Array.toList_filter]
      exact List.filter_sublist
    have hl2 : (leftOf es (seen.push e.born)).toList = (leftOf es seen).toList.eraseIdx i := by
      rw [← filter_born hnd hi]
      unfold leftOf
      rw [Array.toList_filter, Array.toList_filter, List.filter_filter]
      apply List.filter_congr
      intro x _
      rw [contains_push, Bool.not_or, Bool.and_comm]
    have hpp : (pre ++ [left[i]] ++ left.eraseIdx i).Perm (m.map (·.1)) := by
      refine List.Perm.trans ?_ hperm
      rw [List.append_assoc]
      exact List.Perm.append_left pre (erase_perm hil)
    have hnp : left[i] ∉ pre := by
      have hN : (pre ++ [left[i]] ++ left.eraseIdx i).Nodup := (hpp.nodup_iff).2 hE.2.1
      rw [List.append_assoc] at hN
      intro hm
      exact (List.nodup_append.1 hN).2.2 _ hm _ (by simp) rfl
    have hr1 : w1.heap[r]? = some (.mapIter (some b) since seen c0) := by rcases hw1 with rfl | rfl <;> exact hr
    have hb1 : w1.heap[b]? = some (.map es clock) := by rcases hw1 with rfl | rfl <;> exact hb
    have hc1 : Chg [r] w w1 := by
      rcases hw1 with rfl | rfl
      · exact Chg.refl _ _
      · exact (Chg.refl _ _).drew
    have hs1 : w1.heap.size = w.heap.size := by rcases hw1 with rfl | rfl <;> rfl
    have hb2 : (setMap w1 r (.mapIter (some b) since (seen.push e.born) clock)).heap[b]? = some (.map es clock) := (setMap_chg w1 r _).at hb1 (by simp; exact fun q => hne q.symm)
    have hr2 : (setMap w1 r (.mapIter (some b) since (seen.push e.born) clock)).heap[r]? = some (.mapIter (some b) since (seen.push e.born) clock) := setMap_at _ hr1
    refine ⟨left[i], e.val, setMap w1 r (.mapIter (some b) since (seen.push e.born) clock), hmm, hnp, by rw [← hkey]; exact hrun, ⟨es, clock, since, seen.push e.born, clock, left.eraseIdx i, hb2, hE, hr2, hold, hsk, hsk, ?_, ?_, hpp⟩, by omega, hc1.trans (setMap_chg _ _ _) (fun x hx => .inl hx), by simp [setMap, hs1], ?_⟩
    · rw [hl2, map_eraseIdx', hleft, ← map_eraseIdx']
    · rw [List.length_eraseIdx_of_lt hil]; omega
    · rw [← hkey]
      exact run_entry_at (P := P) _ r b since seen es clock e hr2 hb2 hem hE.2.2.1
end

section
variable {K : Type} [DecidableEq K] {P : Program} {kt et t : TypeId} {enc : K → Value} {b r : Nat} {m : List (K × Value)} {pre : List K} {cnt : Nat}
variable {F : Fence} {n : Nat} (w : World) {ops : Array Oper} {rest : List Oper} {o : Oper} {a : Act} {Q : Exit → Act → World → Prop}
omit [DecidableEq K] in
theorem wpIn_mrange (hg : o.guard = none) (x : Operand) (hop : o.op = Op.range t x) (ht : P.underlying t = some (.map kt et)) (hx : a.eval x = .map (some b)) (h : MapIs enc w b m)
    (hK : ∀ w', RngIs enc w' b w.heap.size m [] m.length → Chg [] w w' → w'.heap.size = w.heap.size + 1 → wpListIn F n P ops Q rest (a.put o.dst (.pointer (some ⟨w.heap.size, 0, none⟩))) w') :
    wpListIn F n P ops Q (o :: rest) a w := by
  refine wpListIn_plain hg fun K' hK' => ?_
  obtain ⟨w', hrun, r1, r2, r3⟩ := h.range (P := P) ht
  unfold Oper.wpIn
  refine ⟨by simp [Oper.about, hop], ?_⟩
  rw [Oper.semAt_plain F _ _ (by rw [hop]; intro c hc'; cases hc')]
  simp [execOp, hop, hx, hrun, Result.andThen]
  exact hK' _ _ (hK w' r1 r2 r3)
theorem wpIn_mnext (hg : o.guard = none) (it : Operand) (hop : o.op = Op.next it false) (E : KeyEnc P kt enc) (hit : a.eval it = .pointer (some ⟨r, 0, none⟩)) (h : RngIs enc w b r m pre cnt)
    (hDone : cnt = 0 → pre.Perm (m.map (·.1)) → wpListIn F n P ops Q rest (a.put o.dst (.tuple #[.bool false])) w)
    (hMore : ∀ k v w', (k, v) ∈ m → k ∉ pre → RngIs enc w' b r m (pre ++ [k]) (cnt - 1) → 0 < cnt → Chg [r] w w' → w'.heap.size = w.heap.size →
      (Instr.entry (.pointer (some ⟨r, 0, none⟩))).run P w' = .ok (.tuple #[enc k, v]) w' → wpListIn F n P ops Q rest (a.put o.dst (.tuple #[.bool true, enc k, v])) w') :
    wpListIn F n P ops Q (o :: rest) a w := by
  refine wpListIn_plain hg fun K' hK' => ?_
  unfold Oper.wpIn
  refine ⟨by simp [Oper.about, hop], ?_⟩
  rw [Oper.semAt_plain F _ _ (by rw [hop]; intro c hc'; cases hc')]
  rcases h.next E o.type with ⟨h0, hp, hrun⟩ | ⟨k, v, w', q1, q2, hrun, q3, q4, q5, q6, q7⟩
  · simp [execOp, hop, hit, hrun, Result.andThen]
    exact hK' _ _ (hDone h0 hp)
  · simp [execOp, hop, hit, hrun, Result.andThen]
    exact hK' _ _ (hMore k v w' q1 q2 q3 q4 q5 q6 q7)
omit [DecidableEq K] in
theorem wp_mrange (hg : o.guard = none) (x : Operand) (hop : o.op = Op.range t x) (ht : P.underlying t = some (.map kt et)) (hx : a.eval x = .map (some b)) (h : MapIs enc w b m)
    (hK : ∀ w', RngIs enc w' b w.heap.size m [] m.length → Chg [] w w' → w'.heap.size = w.heap.size + 1 → wpList P ops Q rest (a.put o.dst (.pointer (some ⟨w.heap.size, 0, none⟩))) w') :
    wpList P ops Q (o :: rest) a w := by
  refine wpList_plain hg fun K' hK' => ?_
  obtain ⟨w', hrun, r1, r2, r3⟩ := h.range (P := P) ht
  unfold Oper.wp
  simp [execOp, hop, hx, hrun, Result.andThen]
  exact hK' _ _ (hK w' r1 r2 r3)
theorem wp_mnext (hg : o.guard = none) (it : Operand) (hop : o.op = Op.next it false) (E : KeyEnc P kt enc) (hit : a.eval it = .pointer (some ⟨r, 0, none⟩)) (h : RngIs enc w b r m pre cnt)
    (hDone : cnt = 0 → pre.Perm (m.map (·.1)) → wpList P ops Q rest (a.put o.dst (.tuple #[.bool false])) w)
    (hMore : ∀ k v w', (k, v) ∈ m → k ∉ pre → RngIs enc w' b r m (pre ++ [k]) (cnt - 1) → 0 < cnt → Chg [r] w w' → w'.heap.size = w.heap.size →
      (Instr.entry (.pointer (some ⟨r, 0, none⟩))).run P w' = .ok (.tuple #[enc k, v]) w' → wpList P ops Q rest (a.put o.dst (.tuple #[.bool true, enc k, v])) w') :
    wpList P ops Q (o :: rest) a w := by
  refine wpList_plain hg fun K' hK' => ?_
  unfold Oper.wp
  rcases h.next E o.type with ⟨h0, hp, hrun⟩ | ⟨k, v, w', q1, q2, hrun, q3, q4, q5, q6, q7⟩
  · simp [execOp, hop, hit, hrun, Result.andThen]
    exact hK' _ _ (hDone h0 hp)
  · simp [execOp, hop, hit, hrun, Result.andThen]
    exact hK' _ _ (hMore k v w' q1 q2 q3 q4 q5 q6 q7)
end
end Go.Proofs.Ytonppfebmeehcaa

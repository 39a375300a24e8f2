/- Texts put into one: DcS DcT DcU RndQ DcV. -/
import Derived.Test.YtonppfebmeehcaaMgDc
import Derived.Test.YtonppfebmeehcaaStCt
import Derived.Test.YtonppfebmeehcaaStM
import Derived.Test.YtonppfebmeehcaaStS
import Derived.Test.YtonppfebmeehcaaStG
import Derived.Test.YtonppfebmeehcaaHashEq
import Derived.Sort.QuietIn
import Derived.KernelRfl
/- The store and the document's: when they tell the same. Plain. -/
namespace Go.Proofs.Ytonppfebmeehcaa
open Go.RowKit
set_option linter.unusedVariables false
set_option linter.unusedSimpArgs false

theorem join_set (ns : List DN) (p q : Nat) (x : DN) : ((ns.set p x)[q]?).join = if q = p ∧ p < ns.length then x else (ns[q]?).join := by
  rw [List.getElem?_set]
  by_cases e : p = q
  · subst e
    by_cases hl : p < ns.length
    · rw [if_pos rfl, if_pos hl, if_pos ⟨rfl, hl⟩]; rfl
    · rw [if_pos rfl, if_neg hl, if_neg (fun h => hl h.2), List.getElem?_eq_none (by omega)]
  · rw [if_neg e, if_neg (fun h => e h.1.symm)]
theorem join_app (ns : List DN) (q : Nat) (x : DN) : ((ns ++ [x])[q]?).join = if q = ns.length then x else (ns[q]?).join := by
  by_cases h : q < ns.length
  · rw [List.getElem?_append_left h, if_neg (by omega)]
  · by_cases e : q = ns.length
    · subst e; simp
    · rw [if_neg e, List.getElem?_eq_none (by simp; omega), List.getElem?_eq_none (by omega)]
theorem join_take (ns : List DN) (n q : Nat) : ((ns.take n)[q]?).join = if q < n then (ns[q]?).join else none := by
  rw [List.getElem?_take]
  split <;> rfl
theorem join_ge {ns : List DN} {q : Nat} (h : ns.length ≤ q) : (ns[q]?).join = none := by rw [List.getElem?_eq_none h]; rfl

structure Same (s : SS) (log : Nat) (ns : List DN) : Prop where
  log : log = s.log
  n : ns.length = s.n
  node : ∀ p, s.node p = ((ns[p]?).join).map (·.1)
  pin : ∀ p, s.pin p = dnK ((ns[p]?).join)
section
variable {s s' : SS} {lg : Nat} {ns : List DN}
theorem Same.live (h : Same s lg ns) (p : Nat) : (s.node p).isSome = ((ns[p]?).join).isSome := by rw [h.node]; cases (ns[p]?).join <;> rfl
theorem Same.hash (h : Same s lg ns) (p : Nat) : (s.node p).getD zeroHash = dnH ((ns[p]?).join) := by rw [h.node]; cases (ns[p]?).join <;> rfl
theorem Same.getH (h : Same s lg ns) (p : Nat) : s.getH p = dnH ((ns[p]?).join) := by
  unfold SS.getH
  by_cases hp : p < s.n
  · rw [if_pos hp, h.hash]
  · rw [if_neg hp, join_ge (by rw [h.n]; omega)]; rfl
theorem Same.getE (h : Same s lg ns) (p : Nat) : s.getE p = if p < ns.length then (if ((ns[p]?).join).isSome then 0 else 50) else 31 := by
  unfold SS.getE
  rw [h.n, h.live]
theorem Same.nopin (h : Same s lg ns) {p : Nat} (hn : (ns[p]?).join = none) : s.pin p = 0 := by rw [h.pin, hn]; rfl
theorem Same.push (h : Same s lg ns) {H : Array Value} {al : Nat} (hr : PutRel { s with n := s.n + 1 } s' s.n (some H) al) : Same s' lg (ns ++ [some (H, 0)]) := by
  refine ⟨h.log.trans hr.log.symm, by rw [hr.n]; simp [h.n], fun p => ?_, fun p => ?_⟩
  · rw [hr.node, join_app, h.n]
    split
    · rfl
    · exact h.node p
  · have : s'.pin p = s.pin p := by unfold SS.pin; rw [hr.pins]
    rw [this, join_app, h.n]
    by_cases e : p = s.n
    · rw [if_pos e, h.pin, join_ge (by rw [h.n]; omega)]; rfl
    · rw [if_neg e]; exact h.pin p
theorem Same.pinUp (h : Same s lg ns) {p : Nat} {H : Array Value} {k : Nat} (hx : (ns[p]?).join = some (H, k)) : Same { s with pins := pput s.pins p (s.pin p + 1) } lg (ns.set p (some (H, k + 1))) := by
  have hp : p < ns.length := by
    by_cases hp : p < ns.length
    · exact hp
    · rw [join_ge (by omega)] at hx; cases hx
  refine ⟨h.log, by simp [h.n], fun q => ?_, fun q => ?_⟩
  · rw [join_set]
    by_cases e : q = p
    · subst e
      rw [if_pos ⟨rfl, hp⟩]
      have := h.node q
      rw [hx] at this
      exact this
    · rw [if_neg (fun h => e h.1)]; exact h.node q
  · rw [pin_put, join_set]
    by_cases e : q = p
    · subst e
      rw [if_pos rfl, if_pos ⟨rfl, hp⟩, h.pin, hx]
      rfl
    · rw [if_neg e, if_neg (fun h => e h.1)]; exact h.pin q
theorem Same.pinDown (h : Same s lg ns) {p : Nat} {H : Array Value} {k : Nat} (hx : (ns[p]?).join = some (H, k)) : Same { s with pins := unp s.pins p (s.pin p) } lg (ns.set p (some (H, k - 1))) := by
  have hp : p < ns.length := by
    by_cases hp : p < ns.length
    · exact hp
    · rw [join_ge (by omega)] at hx; cases hx
  refine ⟨h.log, by simp [h.n], fun q => ?_, fun q => ?_⟩
  · rw [join_set]
    by_cases e : q = p
    · subst e
      rw [if_pos ⟨rfl, hp⟩]
      have := h.node q
      rw [hx] at this
      exact this
    · rw [if_neg (fun h => e h.1)]; exact h.node q
  · rw [pin_unp, join_set]
    by_cases e : q = p
    · subst e
      rw [if_pos rfl, if_pos ⟨rfl, hp⟩, h.pin, hx]
      rfl
    · rw [if_neg e, if_neg (fun h => e h.1)]; exact h.pin q
theorem Same.put (h : Same s lg ns) {p al : Nat} {o : Option (Array Value)} (hp : p < ns.length) (h0 : s.pin p = 0) (hr : PutRel s s' p o al) : Same s' lg (ns.set p (o.map (·, 0))) := by
  refine ⟨h.log.trans hr.log.symm, by rw [hr.n]; simp [h.n], fun q => ?_, fun q => ?_⟩
  · rw [hr.node, join_set]
    by_cases e : q = p
    · rw [if_pos e, if_pos ⟨e, hp⟩]; cases o <;> rfl
    · rw [if_neg e, if_neg (fun h => e h.1)]; exact h.node q
  · have : s'.pin q = s.pin q := by unfold SS.pin; rw [hr.pins]
    rw [this, join_set]
    by_cases e : q = p
    · rw [if_pos ⟨e, hp⟩, e, h0]; cases o <;> rfl
    · rw [if_neg (fun h => e h.1)]; exact h.pin q
theorem Same.same (h : Same s lg ns) {ns' : List DN} (hl : ns'.length = ns.length) (hq : ∀ q : Nat, (ns'[q]?).join = (ns[q]?).join) : Same s lg ns' :=
  ⟨h.log, hl.trans h.n, fun p => by rw [hq]; exact h.node p, fun p => by rw [hq]; exact h.pin p⟩
theorem dSw_join (ns : List DN) (kl : List Nat) (q : Nat) : ((dSw ns kl ns.length).1[q]?).join = if dSwGoes ((ns[q]?).join) q kl = true then none else (ns[q]?).join := by
  rw [dSw_at]
  by_cases hq : q < ns.length
  · by_cases hg : dSwGoes ((ns[q]?).join) q kl = true
    · rw [if_pos ⟨hq, hq, hg⟩, if_pos hg]; rfl
    · rw [if_neg (fun h => hg h.2.2), if_neg hg]
  · rw [if_neg (fun h => hq h.1), List.getElem?_eq_none (by omega)]
    split <;> rfl
theorem dSw_count (ns : List DN) (kl : List Nat) : ∀ k, k ≤ ns.length → ∀ gl : List Nat, gl.Nodup → (∀ q, q ∈ gl ↔ q < k ∧ dSwGoes ((ns[q]?).join) q kl = true) → (dSw ns kl k).2 = gl.length := by
  have key : ∀ k, (dSw ns kl k).2 = ((List.range k).filter fun q => dSwGoes ((ns[q]?).join) q kl).length := by
    intro k
    induction k with
    | zero => rfl
    | succ k ih =>
      rw [dSw, List.range_succ, List.filter_append, List.length_append]
      by_cases hg : dSwGoes ((ns[k]?).join) k kl = true
      · rw [if_pos hg]; simp [hg, ih]
      · rw [if_neg hg]; simp [hg, ih]
  intro k _ gl hnd hm
  rw [key k]
  apply List.Perm.length_eq
  refine (List.perm_ext_iff_of_nodup (List.Nodup.sublist List.filter_sublist List.nodup_range) hnd).2 (fun q => ?_)
  rw [List.mem_filter, List.mem_range, hm]
theorem Same.sweep (h : Same s lg ns) {gl kl : List Nat} (hr : KillsRel s s' gl) (hg : ∀ q, q ∈ gl ↔ (s.node q).isSome = true ∧ goes s kl q = true) (hnd : gl.Nodup) :
    Same s' lg (dSw ns kl ns.length).1 ∧ (dSw ns kl ns.length).2 = gl.length := by
  have hgo : ∀ q, q ∈ gl ↔ dSwGoes ((ns[q]?).join) q kl = true := fun q => by
    rw [hg, h.live]
    unfold goes dSwGoes
    rw [h.pin]
    simp [Nat.pos_iff_ne_zero, and_comm, List.count_eq_zero]
  refine ⟨⟨h.log.trans hr.log.symm, by rw [dSw_length, hr.n, h.n], fun p => ?_, fun p => ?_⟩, ?_⟩
  · rw [hr.node, dSw_join]
    by_cases e : p ∈ gl
    · rw [if_pos e, if_pos ((hgo p).1 e)]; rfl
    · rw [if_neg e, if_neg (fun q => e ((hgo p).2 q))]; exact h.node p
  · have : s'.pin p = s.pin p := by unfold SS.pin; rw [hr.pins]
    rw [this, dSw_join]
    by_cases e : p ∈ gl
    · have h1 := (hgo p).1 e
      rw [if_pos h1, h.pin]
      unfold dSwGoes at h1
      simp at h1
      have := h1.2.1
      rw [this]; rfl
    · rw [if_neg (fun q => e ((hgo p).2 q))]; exact h.pin p
  · refine dSw_count ns kl _ (Nat.le_refl _) gl hnd (fun q => ?_)
    rw [hgo]
    constructor
    · intro hq
      refine ⟨?_, hq⟩
      by_cases hl : q < ns.length
      · exact hl
      · rw [join_ge (by omega)] at hq; cases hq
    · exact fun hq => hq.2
theorem Same.cut (h : Same s lg ns) {n : Nat} {gl : List Nat} (hn : n ≤ ns.length) (hp : ∀ p, n ≤ p → s.pin p = 0) (hr : CutRel s s' n gl) : Same s' lg (ns.take n) := by
  refine ⟨h.log.trans hr.log.symm, by rw [hr.n]; simp; omega, fun p => ?_, fun p => ?_⟩
  · rw [hr.node, join_take]
    split
    · exact h.node p
    · rfl
  · have : s'.pin p = s.pin p := by unfold SS.pin; rw [hr.pins]
    rw [this, join_take]
    split
    · exact h.pin p
    · exact hp p (by omega)
end
/-- What All tells, by the document's list. -/
def dZ (ns : List DN) : List (Nat × Array Value) := (dAll ns ns.length).map fun p => (p, dnH ((ns[p]?).join))
theorem StIs.all {w : World} {b : Nat} {s : SS} (h : StIs w b s) : ∃ xs, AllIs s xs := by
  have hok := h.2.2.2.2.2
  have hn := h.keysN
  have hp : (List.mergeSort (s.cks.map (·.k)) (fun a b => decide (a ≤ b))).Perm (s.cks.map (·.k)) := List.mergeSort_perm _ _
  have hs : (List.mergeSort (s.cks.map (·.k)) (fun a b => decide (a ≤ b))).Pairwise (· < ·) := by
    have h1 := List.pairwise_mergeSort (le := fun (a b : Nat) => decide (a ≤ b)) (by intro a b c h1 h2; simp at *; omega) (by intro a b; simp; omega) (s.cks.map (·.k))
    have h2 : (List.mergeSort (s.cks.map (·.k)) (fun a b => decide (a ≤ b))).Nodup := hp.nodup_iff.2 hn
    have := List.Pairwise.and h1 h2
    refine this.imp ?_
    intro a b ⟨h3, h4⟩
    simp at h3
    omega
  exact ⟨_, allOf_is hok hp hs⟩
theorem dZ_up (ns : List DN) : ((dZ ns).map (·.1)).Pairwise (· < ·) := by
  have : (dZ ns).map (·.1) = dAll ns ns.length := by unfold dZ; rw [List.map_map]; exact List.map_id _
  rw [this]
  unfold dAll
  exact List.Pairwise.filter _ List.pairwise_lt_range
theorem dZ_mem {s : SS} {lg : Nat} {ns : List DN} (h : Same s lg ns) (p : Nat) (H : Array Value) : (p, H) ∈ dZ ns ↔ s.node p = some H := by
  unfold dZ dAll
  rw [h.node]
  simp only [List.mem_map, List.mem_filter, List.mem_range, Prod.mk.injEq]
  constructor
  · rintro ⟨q, ⟨_, h2⟩, rfl, rfl⟩
    cases hx : (ns[q]?).join with
    | none => rw [hx] at h2; cases h2
    | some y => rfl
  · intro hx
    cases hy : (ns[p]?).join with
    | none => rw [hy] at hx; cases hx
    | some y =>
      rw [hy] at hx
      refine ⟨p, ⟨?_, by rw [hy]; rfl⟩, rfl, ?_⟩
      · by_cases hl : p < ns.length
        · exact hl
        · rw [join_ge (by omega)] at hy; cases hy
      · rw [hy]
        have : y.1 = H := by simpa using hx
        exact this
theorem allZ {w : World} {b : Nat} {s : SS} {lg : Nat} {ns : List DN} (hst : StIs w b s) (h : Same s lg ns) : AllIs s (dZ ns) := by
  obtain ⟨xs, hx⟩ := hst.all
  have e : xs = dZ ns := by
    have key : ∀ a : Nat, AllIs { s with } xs := fun _ => hx
    have hperm : xs.Perm (dZ ns) := by
      have nd1 : xs.Nodup := (hx.up.imp (fun h => Nat.ne_of_lt h)).of_map (S := fun a b => a ≠ b) _ (fun a b h e => h (by rw [e]))
      have nd2 : (dZ ns).Nodup := ((dZ_up ns).imp (fun h => Nat.ne_of_lt h)).of_map (S := fun a b => a ≠ b) _ (fun a b h e => h (by rw [e]))
      exact (List.perm_ext_iff_of_nodup nd1 nd2).2 (fun ⟨p, H⟩ => by rw [hx.mem, dZ_mem h])
    have hz : AllIs s (dZ ns) := ⟨dZ_up ns, fun p H => dZ_mem h p H, by rw [← hperm.length_eq]; exact hx.len⟩
    exact hx.uniq hz
  rw [← e]
  exact hx
theorem alive_same {w : World} {b : Nat} {s : SS} {lg : Nat} {ns : List DN} (hst : StIs w b s) (h : Same s lg ns) : s.alive = ns.countP (·.isSome) := by
  rw [← (allZ hst h).len]
  have hL : ∀ k, k ≤ ns.length → (dAll ns k).length = dLive ns k := by
    intro k
    induction k with
    | zero => intro _; rfl
    | succ k ih =>
      intro hk
      rw [dAll_succ (by omega), dLive_succ (by omega), ← ih (by omega)]
      split <;> simp
  have := hL ns.length (Nat.le_refl _)
  unfold dZ
  rw [List.length_map, this]
  unfold dLive
  rw [List.take_length]
theorem chunks_same {w : World} {b : Nat} {s : SS} {d : DS} (hst : StIs w b s) (h : Same s d.log d.ns) : s.cks.length = (d.cc d.ns.length).1 := by
  rw [chunks_cc hst]
  unfold DS.cc
  rw [h.n, h.log]
  congr 1
  exact cc_congr (fun q _ => h.live q)
end Go.Proofs.Ytonppfebmeehcaa

/- The store and the document's, side by side: what is done to both. -/
namespace Go.Proofs.Ytonppfebmeehcaa
open Go.RowKit
set_option linter.unusedVariables false
set_option linter.unusedSimpArgs false

/-- A store and the document's that tell the same, apart from each other. -/
structure Tw (w : World) (b : Nat) (s : SS) (c : Nat) (d : DS) (m : Nat) : Prop where
  st : StIs w b s
  rf : DIs w c d
  same : Same s d.log d.ns
  apart : ∀ k ∈ s.foot b, k ∉ d.foot c
  n : s.n ≤ m
  pin : ∀ p, s.pin p ≤ m
def feet (b : Nat) (s : SS) (c : Nat) (d : DS) : List Nat := s.foot b ++ d.foot c
theorem Tw.chg {w w' : World} {b c m : Nat} {s : SS} {d : DS} {F : List Nat} (h : Tw w b s c d m) (hc : Chg F w w') (hF : ∀ k ∈ feet b s c d, k ∉ F) : Tw w' b s c d m :=
  ⟨h.st.chg hc (fun k hk => hF k (List.mem_append_left _ hk)), h.rf.chg hc (fun k hk => hF k (List.mem_append_right _ hk)), h.same, h.apart, h.n, h.pin⟩
theorem Tw.chg0 {w w' : World} {b c m : Nat} {s : SS} {d : DS} (h : Tw w b s c d m) (hc : Chg [] w w') : Tw w' b s c d m := h.chg hc (by simp)
theorem Tw.lt {w : World} {b c m : Nat} {s : SS} {d : DS} (h : Tw w b s c d m) : ∀ k ∈ feet b s c d, k < w.heap.size := by
  intro k hk
  rcases List.mem_append.1 hk with q | q
  · exact h.st.lt k q
  · exact h.rf.lt k q
theorem Tw.up {w : World} {b c m m' : Nat} {s : SS} {d : DS} (h : Tw w b s c d m) (hm : m ≤ m') : Tw w b s c d m' := ⟨h.st, h.rf, h.same, h.apart, Nat.le_trans h.n hm, fun p => Nat.le_trans (h.pin p) hm⟩
theorem Tw.e {w : World} {b c m : Nat} {s : SS} {d : DS} (h : Tw w b s c d m) (p : Nat) : s.getE p = d.getE p := h.same.getE p
theorem Tw.alive {w : World} {b c m : Nat} {s : SS} {d : DS} (h : Tw w b s c d m) : s.alive = d.ns.countP (·.isSome) := alive_same h.st h.same
theorem Tw.alive_le {w : World} {b c m : Nat} {s : SS} {d : DS} (h : Tw w b s c d m) : s.alive ≤ m := by
  rw [h.alive]
  have := List.countP_le_length (p := fun (x : DN) => x.isSome) (l := d.ns)
  have := h.same.n
  have := h.n
  omega
/-- The first of two calls. -/
def P1 (w : World) (b : Nat) (s : SS) (m log : Nat) (ns : List DN) (v : Value) (e : Ending) (w1 : World) : Prop :=
  e = .returned v ∧ ∃ s', StIs w1 b s' ∧ Mv (s.foot b) (s'.foot b) w w1 ∧ Same s' log ns ∧ s'.n ≤ m ∧ ∀ p, s'.pin p ≤ m
def BothP (w : World) (b : Nat) (s : SS) (c : Nat) (d : DS) (m : Nat) (w' : World) : Prop := ∃ s' d', Tw w' b s' c d' m ∧ Mv (feet b s c d) (feet b s' c d') w w'
section
variable {w w1 w2 : World} {b c m : Nat} {s : SS} {d : DS}
theorem Tw.p1 {F : List Nat} (h : Tw w b s c d m) {m' : Nat} {log : Nat} {ns : List DN} {v : Value} {e : Ending} (hp : P1 w b s m' log ns v e w1) : DIs w1 c d := by
  obtain ⟨_, s', _, hm, _⟩ := hp
  exact h.rf.chg hm.1 (fun k hk h2 => h.apart k h2 hk)
theorem Tw.join (h : Tw w b s c d m) {m' : Nat} {ns : List DN} {v v2 : Value} {e e2 : Ending} (hp : P1 w b s m' d.log ns v e w1) (hq : DP w1 c d ns v2 e2 w2) : BothP w b s c d m' w2 := by
  have hr1 := h.p1 (F := []) hp
  obtain ⟨_, s', h1, h2, h3, h4, h5⟩ := hp
  obtain ⟨_, d', q1, q2, q3, q4⟩ := hq
  have hap : ∀ k ∈ s'.foot b, k ∉ d.foot c := fun k hk hkd => (h2.2 k hk).elim (fun q => h.apart k q hkd) (fun q => by have := h.rf.lt k hkd; omega)
  have hap2 : ∀ k ∈ s'.foot b, k ∉ d'.foot c := fun k hk hkd => (q4.2 k hkd).elim (fun q => hap k hk q) (fun q => by have := h1.lt k hk; omega)
  refine ⟨s', d', ⟨h1.chg q4.1 hap, q1, by rw [q2, q3]; exact h3, hap2, h4, h5⟩, ?_, ?_⟩
  · exact (h2.1.mono (G := feet b s c d) (fun x hx _ => List.mem_append_left _ hx)).trans q4.1 (fun x hx => .inl (List.mem_append_right _ hx))
  · intro k hk
    rcases List.mem_append.1 hk with q | q
    · rcases h2.2 k q with r | r
      · exact .inl (List.mem_append_left _ r)
      · exact .inr r
    · rcases q4.2 k q with r | r
      · exact .inl (List.mem_append_right _ r)
      · exact .inr (by have := h2.1.size; omega)
theorem Tw.keep1 (h : Tw w b s c d m) (hc : Chg [] w w1) {v : Value} {ns : List DN} (hn : ns = d.ns) : P1 w b s (m + 1) d.log ns v (.returned v) w1 :=
  ⟨rfl, s, h.st.chg0 hc, ⟨hc.of_nil, fun k hk => .inl hk⟩, by rw [hn]; exact h.same, by have := h.n; omega, fun p => by have := h.pin p; omega⟩
theorem p1_push (h : Tw w b s c d m) (hm : m ≤ 1000) {H : Array Value} (hH : IsHash H) :
    Calls Try.prog 33 #[.pointer (some ⟨b, 0, none⟩), .agg H] w (P1 w b s (m + 1) d.log (d.ns ++ [some (H, 0)]) (.int .u64 d.ns.length)) := by
  have := h.n
  have := h.alive_le
  refine (push_calls b s H w h.st hH (by omega) (by omega)).mono ?_
  rintro e w' ⟨rfl, s', h1, h2, h3⟩
  refine ⟨by rw [h.same.n], s', h1, h3, h.same.push h2, by rw [h2.n]; show s.n + 1 ≤ m + 1; omega, fun p => ?_⟩
  have e : s'.pin p = s.pin p := by unfold SS.pin; rw [h2.pins]
  rw [e]
  have := h.pin p
  omega
theorem p1_pin (h : Tw w b s c d m) (hm : m ≤ 1000) {p : Nat} (hp : p < 18446744073709551616) :
    Calls Try.prog 24 #[.pointer (some ⟨b, 0, none⟩), .int .u64 p] w (P1 w b s (m + 1) d.log (dPin d.ns p) (.int .i64 (d.getE p))) := by
  have hpm := h.pin p
  by_cases hE : s.getE p = 0
  · refine (pin_ok b p s w h.st hp hE (by omega)).mono ?_
    rintro e w' ⟨rfl, h1, h2⟩
    rw [← h.e, hE]
    have hE2 := hE
    rw [h.e] at hE2
    unfold DS.getE at hE2
    cases hx : d.nd p with
    | none => rw [hx] at hE2; simp only [Option.isSome_none] at hE2; split at hE2 <;> simp at hE2
    | some y =>
      obtain ⟨H, k⟩ := y
      have hx' : (d.ns[p]?).join = some (H, k) := hx
      refine ⟨rfl, _, h1, ⟨h2.mono (fun x hx _ => by simp at hx; subst hx; simp [SS.foot]), fun k hk => .inl hk⟩, ?_, by show s.n ≤ m + 1; have := h.n; omega, fun q => ?_⟩
      · unfold dPin
        rw [hx']
        exact h.same.pinUp hx'
      · rw [pin_put]
        have := h.pin q
        split <;> omega
  · have e1 : (d.ns[p]?).join = none := by
      cases hx : (d.ns[p]?).join with
      | none => rfl
      | some y =>
        exfalso
        apply hE
        rw [h.same.getE, hx]
        have : p < d.ns.length := by
          by_cases hl : p < d.ns.length
          · exact hl
          · rw [join_ge (by omega)] at hx; cases hx
        rw [if_pos this]
        rfl
    rw [← h.e]
    exact (pin_bad b p s w h.st hp hE).mono fun e w' ⟨he, hc⟩ => by rw [he]; exact h.keep1 hc (by unfold dPin; rw [e1])
theorem p1_unpin (h : Tw w b s c d m) (hm : m ≤ 1000) {p : Nat} (hp : p < 18446744073709551616) :
    Calls Try.prog 53 #[.pointer (some ⟨b, 0, none⟩), .int .u64 p] w (P1 w b s (m + 1) d.log (dUn d.ns p) (.int .i64 (dUnE d.ns p))) := by
  have hn := h.same.n
  have hpe := h.same.pin p
  by_cases hl : p < s.n
  · by_cases h0 : s.pin p = 0
    · have e1 : dUnE d.ns p = 52 := by unfold dUnE; rw [if_pos (by omega), ← hpe, if_pos h0]
      have e2 : dUn d.ns p = d.ns := by
        unfold dUn
        cases hx : (d.ns[p]?).join with
        | none => rfl
        | some y =>
          rw [hx] at hpe
          have : y.2 = 0 := by rw [h0] at hpe; exact hpe.symm
          exact if_pos this
      rw [e1]
      exact (unpin_none b p s w h.st hp hl h0).mono fun e w' ⟨he, hc⟩ => by rw [he]; exact h.keep1 hc e2
    · cases hx : (d.ns[p]?).join with
      | none => rw [hx] at hpe; exact absurd hpe h0
      | some y =>
        obtain ⟨H, k⟩ := y
        rw [hx] at hpe
        have hk : s.pin p = k := hpe
        have e1 : dUnE d.ns p = 0 := by unfold dUnE; rw [if_pos (by omega), hx]; exact if_neg (by omega)
        have e2 : dUn d.ns p = d.ns.set p (some (H, k - 1)) := by unfold dUn; rw [hx]; exact if_neg (by omega)
        rw [e1, e2]
        refine (unpin_ok b p s w h.st hp hl (by omega)).mono ?_
        rintro e w' ⟨rfl, h1, h2⟩
        refine ⟨rfl, _, h1, ⟨h2.mono (fun x hx _ => by simp at hx; subst hx; simp [SS.foot]), fun k hk => .inl hk⟩, h.same.pinDown hx, by show s.n ≤ m + 1; have := h.n; omega, fun q => ?_⟩
        rw [pin_unp]
        have := h.pin q
        split
        · have := h.pin p; omega
        · omega
  · have e1 : dUnE d.ns p = 31 := by unfold dUnE; rw [if_neg (by omega)]
    have e2 : dUn d.ns p = d.ns := by unfold dUn; rw [join_ge (by omega)]
    rw [e1]
    exact (unpin_far b p s w h.st hp (by omega)).mono fun e w' ⟨he, hc⟩ => by rw [he]; exact h.keep1 hc e2
theorem p1_put {p al : Nat} {o : Option (Array Value)} {v : Value} {e : Ending} (h : Tw w b s c d m) (hl : p < s.n) (h0 : s.pin p = 0) (hp : PutP w b s p o al v e w1) : P1 w b s (m + 1) d.log (d.ns.set p (o.map (·, 0))) v e w1 := by
  obtain ⟨he, s', h1, h2, h3⟩ := hp
  refine ⟨he, s', h1, h3, h.same.put (by rw [h.same.n]; exact hl) h0 h2, by rw [h2.n]; have := h.n; omega, fun q => ?_⟩
  have e : s'.pin q = s.pin q := by unfold SS.pin; rw [h2.pins]
  rw [e]
  have := h.pin q
  omega
theorem p1_drop (h : Tw w b s c d m) (hm : m ≤ 1000) {p : Nat} (hp : p < 18446744073709551616) :
    Calls Try.prog 48 #[.pointer (some ⟨b, 0, none⟩), .int .u64 p] w (P1 w b s (m + 1) d.log (dDrop d.ns p) (.int .i64 (dDropE d.ns p))) := by
  have hn := h.same.n
  have hpe := h.same.pin p
  by_cases hl : p < s.n
  · by_cases h0 : 0 < s.pin p
    · have e1 : dDropE d.ns p = 51 := by unfold dDropE; rw [if_pos (by omega), ← hpe, if_pos h0]
      have e2 : dDrop d.ns p = d.ns := by unfold dDrop; rw [← hpe, if_pos h0]
      rw [e1]
      exact (drop_pin b p s w h.st hp hl h0).mono fun e w' ⟨he, hc⟩ => by rw [he]; exact h.keep1 hc e2
    · have e1 : dDropE d.ns p = 0 := by unfold dDropE; rw [if_pos (by omega), ← hpe, if_neg h0]
      have e2 : dDrop d.ns p = d.ns.set p none := by unfold dDrop; rw [← hpe, if_neg h0]
      rw [e1, e2]
      cases hd : s.node p with
      | none =>
        have hx : (d.ns[p]?).join = none := by
          have := h.same.live p
          rw [hd] at this
          cases hy : (d.ns[p]?).join with
          | none => rfl
          | some y => rw [hy] at this; cases this
        have e3 : d.ns.set p none = d.ns := by
          apply List.ext_getElem?
          intro q
          rw [List.getElem?_set]
          by_cases e : p = q
          · subst e
            have hl2 : p < d.ns.length := by omega
            rw [if_pos rfl, if_pos hl2]
            rw [List.getElem?_eq_getElem hl2] at hx ⊢
            have : d.ns[p] = none := hx
            rw [this]
          · rw [if_neg e]
        exact (drop_dead b p s w h.st hp hl (by omega) hd).mono fun e w' ⟨he, hc⟩ => by rw [he]; exact h.keep1 hc e3
      | some g => exact (drop_live b p s w h.st hp (by omega) hd).mono fun e w' hq => p1_put h hl (by omega) hq
  · have e1 : dDropE d.ns p = 31 := by unfold dDropE; rw [if_neg (by omega)]
    have e2 : dDrop d.ns p = d.ns := by unfold dDrop; rw [join_ge (by omega), if_neg (by simp [dnK]), List.set_eq_of_length_le (by omega)]
    rw [e1]
    exact (drop_far b p s w h.st hp (by omega)).mono fun e w' ⟨he, hc⟩ => by rw [he]; exact h.keep1 hc e2
theorem p1_back (h : Tw w b s c d m) (hm : m ≤ 1000) {p : Nat} (hp : p < 18446744073709551616) {H : Array Value} (hH : IsHash H) :
    Calls Try.prog 57 #[.pointer (some ⟨b, 0, none⟩), .int .u64 p, .agg H] w (P1 w b s (m + 1) d.log (dBack d.ns p H) (.int .i64 (dBackE d.ns p))) := by
  have hn := h.same.n
  have hlv := h.same.live p
  have hal := h.alive_le
  by_cases hl : p < s.n
  · cases hd : s.node p with
    | some g =>
      rw [hd] at hlv
      have e1 : dBackE d.ns p = 53 := by unfold dBackE; rw [if_pos (by omega), ← hlv]; rfl
      have e2 : dBack d.ns p H = d.ns := by unfold dBack; rw [← hlv]; rfl
      rw [e1]
      exact (back_live b p s H w h.st hp hd).mono fun e w' ⟨he, hc⟩ => by rw [he]; exact h.keep1 hc e2
    | none =>
      rw [hd] at hlv
      have e1 : dBackE d.ns p = 0 := by unfold dBackE; rw [if_pos (by omega), ← hlv]; rfl
      have e2 : dBack d.ns p H = d.ns.set p (some (H, 0)) := by unfold dBack; rw [← hlv]; rfl
      have h0 : s.pin p = 0 := h.same.nopin (by
        cases hy : (d.ns[p]?).join with
        | none => rfl
        | some y => rw [hy] at hlv; cases hlv)
      rw [e1, e2]
      exact (back_ok b p s H w h.st hp hH hl hd (by omega)).mono fun e w' hq => p1_put (o := some H) h hl h0 hq
  · have e1 : dBackE d.ns p = 31 := by unfold dBackE; rw [if_neg (by omega)]
    have e2 : dBack d.ns p H = d.ns := by unfold dBack; rw [join_ge (by omega), if_neg (by simp), List.set_eq_of_length_le (by omega)]
    rw [e1]
    exact (back_far b p s H w h.st hp (by omega)).mono fun e w' ⟨he, hc⟩ => by rw [he]; exact h.keep1 hc e2
theorem p1_cut (h : Tw w b s c d m) (hm : m ≤ 1000) {n : Nat} (hp : n < 18446744073709551616) :
    Calls Try.prog 32 #[.pointer (some ⟨b, 0, none⟩), .int .u64 n] w (P1 w b s (m + 1) d.log (dCut d.ns n) (.int .i64 (dCutE d.ns n))) := by
  have hn := h.same.n
  refine (cut_calls b s w h.st n hp).mono ?_
  rintro e w' (⟨h1, rfl, h2⟩ | ⟨h1, ⟨q, hq, hq2⟩, rfl, h2⟩ | ⟨h1, h2, rfl, s', gl, h3, h4, h5, h6, h7⟩)
  · have e1 : dCutE d.ns n = 31 := by unfold dCutE; rw [if_pos (by omega)]
    have e2 : dCut d.ns n = d.ns := by unfold dCut; rw [if_pos (by omega)]
    rw [e1]
    exact h.keep1 h2 e2
  · have hpk := h.same.pin q
    have hql : q < d.ns.length := by
      by_cases hl : q < d.ns.length
      · exact hl
      · rw [join_ge (by omega)] at hpk
        have : s.pin q = 0 := hpk
        omega
    rw [List.getElem?_eq_getElem hql] at hpk
    have hpk : s.pin q = dnK d.ns[q] := hpk
    have e0 : dPinned d.ns n = true := dPinned_at hq hql (by omega)
    have e1 : dCutE d.ns n = 51 := by unfold dCutE; rw [if_neg (by omega), if_pos e0]
    have e2 : dCut d.ns n = d.ns := by unfold dCut; rw [if_neg (by omega), if_pos e0]
    rw [e1]
    exact h.keep1 h2 e2
  · have e0 : dPinned d.ns n = false := dPinned_not (fun k hk hkl => by
      have := h.same.pin k
      rw [List.getElem?_eq_getElem hkl, h2 k hk] at this
      exact this.symm)
    have e1 : dCutE d.ns n = 0 := by unfold dCutE; rw [if_neg (by omega), e0]; rfl
    have e2 : dCut d.ns n = d.ns.take n := by unfold dCut; rw [if_neg (by omega), e0]; rfl
    rw [e1, e2]
    refine ⟨rfl, s', h3, h5, h.same.cut (by omega) h2 h4, by rw [h4.n]; have := h.n; omega, fun q => ?_⟩
    have e : s'.pin q = s.pin q := by unfold SS.pin; rw [h4.pins]
    rw [e]
    have := h.pin q
    omega
theorem p1_sweep (h : Tw w b s c d m) (hm : m ≤ 1000) {kl : List Nat} {a : Option Addr} {cap : Nat} (hk : Rd w 1 a kl.length (kl.map fun (n : Nat) => Value.int .u64 (n : Int))) (hkl : kl.length ≤ 1000000) :
    Calls Try.prog 26 #[.pointer (some ⟨b, 0, none⟩), .slice a kl.length cap] w (P1 w b s (m + 1) d.log (dSw d.ns kl d.ns.length).1 (.int .u64 ((dSw d.ns kl d.ns.length).2 : Nat))) := by
  refine (sweep_calls b s w h.st kl a cap hk hkl).mono ?_
  rintro e w' ⟨s', gl, rfl, h1, h2, h3, h4, h5⟩
  obtain ⟨q1, q2⟩ := h.same.sweep h2 h5 h4
  rw [q2]
  refine ⟨rfl, s', h1, h3, q1, by rw [h2.n]; have := h.n; omega, fun q => ?_⟩
  have e : s'.pin q = s.pin q := by unfold SS.pin; rw [h2.pins]
  rw [e]
  have := h.pin q
  omega
end
end Go.Proofs.Ytonppfebmeehcaa

/- alike, numbers. -/
namespace Go.Proofs.Ytonppfebmeehcaa
open Go.RowKit
set_option linter.unusedVariables false
set_option linter.unusedSimpArgs false
section
variable {w w1 w2 : World} {b c m : Nat} {s : SS} {d : DS}
set_option maxRecDepth 100000 in
theorem numbers_calls (h : Tw w b s c d m) : Calls Try.prog 60 #[.pointer (some ⟨b, 0, none⟩), .pointer (some ⟨c, 0, none⟩)] w (Res w [] (.bool true)) := by
  have e1 := h.same.n
  have e2 := h.alive
  have e3 := chunks_same h.st h.same
  have q1 := fun W (hc : Chg [] w W) => len_calls b s W (h.st.chg0 hc)
  have q2 := fun W (hc : Chg [] w W) => rlen_calls c d W (h.rf.chg0 hc)
  have q3 := fun W (hc : Chg [] w W) => alive_calls b s W (h.st.chg0 hc)
  have q4 := fun W (hc : Chg [] w W) => ralive_calls c d W (h.rf.chg0 hc)
  have q5 := fun W (hc : Chg [] w W) => chunks_calls b s W (h.st.chg0 hc)
  have q6 := fun W (hc : Chg [] w W) => rchunks_calls c d W (h.rf.chg0 hc)
  rw [e1] at q2
  rw [← e2] at q4
  rw [← e3] at q6
  generalize s.n = A at *
  generalize s.alive = B at *
  generalize s.cks.length = C at *
  clear e1 e2 e3 h
  go_enter Try.func60, Try.ntmps60
  go_wp2_with (first
    | (go_at_call 27; refine (q1 _ (Chg.refl _ _)).mono ?_; rintro e x1 ⟨rfl, k1⟩)
    | (go_at_call 62; refine (q2 _ k1).mono ?_; rintro e x2 ⟨rfl, k2⟩; replace k2 := k1.nil_trans k2)
    | (go_at_call 25; refine (q3 _ k2).mono ?_; rintro e x3 ⟨rfl, k3⟩; replace k3 := k2.nil_trans k3)
    | (go_at_call 76; refine (q4 _ k3).mono ?_; rintro e x4 ⟨rfl, k4⟩; replace k4 := k3.nil_trans k4)
    | (go_at_call 30; refine (q5 _ k4).mono ?_; rintro e x5 ⟨rfl, k5⟩; replace k5 := k4.nil_trans k5)
    | (go_at_call 77; refine (q6 _ k5).mono ?_; rintro e x6 ⟨rfl, k6⟩; replace k6 := k5.nil_trans k6))
  go_ret
  exact ⟨rfl, k6⟩
set_option maxRecDepth 100000 in
theorem alike_calls (h : Tw w b s c d m) {p : Nat} (hp : p < 18446744073709551616) : Calls Try.prog 51 #[.pointer (some ⟨b, 0, none⟩), .pointer (some ⟨c, 0, none⟩), .int .u64 p] w (Res w [] (.bool true)) := by
  have e1 := h.same.getH p
  have e2 := h.e p
  have e4 := h.same.pin p
  have e3 : (s.getE p == 0) = (d.nd p).isSome := by
    rw [e2]
    unfold DS.getE
    cases hx : (d.nd p).isSome with
    | true =>
      have : p < d.ns.length := by
        by_cases hl : p < d.ns.length
        · exact hl
        · rw [d.nd_ge hl] at hx; cases hx
      rw [if_pos this]; rfl
    | false => by_cases hl : p < d.ns.length <;> simp [hl]
  have q1 := fun W (hc : Chg [] w W) => get_calls b p s W (h.st.chg0 hc) hp
  have q2 := fun W (hc : Chg [] w W) => rget_calls c p d W (h.rf.chg0 hc)
  have q3 := fun W (hc : Chg [] w W) => live_calls b p s W (h.st.chg0 hc) hp
  have q4 := fun W (hc : Chg [] w W) => rlive_calls c p d W (h.rf.chg0 hc)
  have q5 := fun W (hc : Chg [] w W) => pins_calls b p s W (h.st.chg0 hc)
  have q6 := fun W (hc : Chg [] w W) => rpins_calls c p d W (h.rf.chg0 hc)
  have hg := IsHash.getH h.st p
  have hs1 := hg.1
  have hs2 := hg.one
  have hee : eqH (s.getH p) (s.getH p) = true := eqH_self
  rw [show dnH (d.nd p) = s.getH p from e1.symm, ← e2] at q2
  rw [e3] at q3
  rw [show dnK (d.nd p) = s.pin p from e4.symm] at q6
  generalize s.getH p = A at *
  generalize s.getE p = B at *
  generalize (d.nd p).isSome = C at *
  generalize s.pin p = K at *
  clear e1 e2 e3 e4 h
  go_enter Try.func51, Try.ntmps51
  go_wp2_with (first
    | (go_at_call 28; refine (q1 _ (Chg.refl _ _)).mono ?_; rintro e x1 ⟨rfl, k1⟩; have k1b := k1.alloc (.cells A 30))
    | (go_at_call 71; refine (q2 _ k1b).mono ?_; rintro e x2 ⟨rfl, k2⟩; have k2b := k1b.nil_trans (k2.alloc (.cells A 30)); have r1 := rng?_chg (k2.alloc (.cells A 30)) (rng?_row (blk_new x1 (.cells A 30)) hs1) (by omega) (by simp); have r2 := rng?_row (blk_new x2 (.cells A 30)) hs1; have r3 : x1.heap.size < x2.heap.size := (by have := k2.size; simp at this; omega))
    | (go_at_call 29; refine (q3 _ k2b).mono ?_; rintro e x3 ⟨rfl, k3⟩; replace k3 := k2b.nil_trans k3)
    | (go_at_call 72; refine (q4 _ k3).mono ?_; rintro e x4 ⟨rfl, k4⟩; replace k4 := k3.nil_trans k4)
    | (go_at_call 73; refine (q5 _ k4).mono ?_; rintro e x5 ⟨rfl, k5⟩; replace k5 := k4.nil_trans k5)
    | (go_at_call 74; refine (q6 _ k5).mono ?_; rintro e x6 ⟨rfl, k6⟩; replace k6 := k5.nil_trans k6))
  go_ret
  exact ⟨by simp, k6⟩
end
end Go.Proofs.Ytonppfebmeehcaa

/- A region that draws its order and only reads, inside a round of a range over a function. Nothing of a program. -/
namespace Go.Proofs.Ytonppfebmeehcaa
set_option linter.unusedVariables false
set_option linter.unusedSimpArgs false
section
variable {F : Fence} {n : Nat} {P : Program} {ops : Array Oper} {md : Region.Mode} {C : World → Prop}
theorem wpIn_of_quietR {o : Oper} {a : Act} {K : Act → Prop} {K' : Act → World → Prop} {Q' : Exit → Act → World → Prop} {w : World} (hnd : ∀ c, o.op ≠ .defer c) (hw : C w) (h : ∀ a w', C w' → K a → K' a w')
    (ha : o.askedIn F P a C) (hh : o.quietIn F n P a C K) : o.wpIn F n P a w K' Q' := by
  obtain ⟨v, h1, h2⟩ := hh
  have h3 := h1 w hw
  unfold Oper.quietAtIn at h3
  unfold Oper.wpIn
  refine ⟨ha w hw, ?_⟩
  rw [Oper.semAt_eq _ _ _ hnd]
  generalize (execOp a.eval o).run P w = r at *
  cases r with
  | ok x w' =>
    cases x <;> simp only [Oper.quietUponIn] at h3 <;> simp only [Oper.uponIn]
    case value u =>
      obtain ⟨e1, e2⟩ := h3
      rw [e1, e2]
      exact h _ _ hw h2
    case skip =>
      obtain ⟨e1, e2⟩ := h3
      rw [e1, ← e2]
      exact h _ _ hw h2
    case enter f args =>
      obtain ⟨e1, hd, hc⟩ := h3
      rw [e1]
      exact ⟨hd, hc.mono fun e w'' ⟨he, hw''⟩ => by subst he; exact h _ _ hw'' h2⟩
  | halt x w' => simp only [Oper.quietUponIn] at h3
theorem wpOpIn_of_qOpInR {i : Nat} {a : Act} {K : Act → Prop} {K' : Act → World → Prop} {Q' : Exit → Act → World → Prop} {w : World} (hnd : ∀ (i : Nat) (o : Oper), ops[i]? = some o → ∀ c, o.op ≠ .defer c) (hC : C w) (h : ∀ a w', C w' → K a → K' a w')
    (hh : qOpIn F n P ops C i K a) : wpOpIn F n P ops Q' i K' a w := by
  unfold qOpIn at hh
  unfold wpOpIn
  split
  · rename_i ho; simp only [ho] at hh; exact h _ _ hC hh
  · rename_i o ho
    simp only [ho] at hh
    obtain ⟨ha, hh⟩ := hh
    split
    · rename_i hw; simp only [hw, if_true] at hh; exact wpIn_of_quietR (hnd _ _ ho) hC h ha hh
    · rename_i hw; simp only [hw] at hh; exact ⟨ha w hC, h _ _ hC hh⟩
theorem wpAnyIn_of_quietR {Q : Act → Prop} {Q' : Exit → Act → World → Prop} (hnd : ∀ (i : Nat) (o : Oper), ops[i]? = some o → ∀ c, o.op ≠ .defer c) (hQ : ∀ a w, C w → Q a → Q' .normal a w) : ∀ (fuel : Nat) (listed : Array Bool) (a : Act) (w : World), C w →
    wpAnyQIn F n P md ops C Q fuel listed a → wpAnyIn F n P md ops Q' fuel listed a w
  | 0, _, _, _, hw, h => ⟨h.1, hQ _ _ hw h.2⟩
  | fuel + 1, _, _, _, hw, h => ⟨fun h0 => hQ _ _ hw (h.1 h0), fun i hi => wpOpIn_of_qOpInR hnd hw (fun a' w' hw' => wpAnyIn_of_quietR hnd hQ fuel _ a' w' hw') (h.2 i hi)⟩
def noDefer (l : List Oper) : Bool := l.all fun o => match o.op with | .defer _ => false | _ => true
theorem wpIn_region_round {id : Nat} {Q : Exit → Act → World → Prop} {a : Act} {w : World} {l : List Oper} (hnd : noDefer l = true) (hm : P.follows .mixedOrders = true) (hB : Region.lexB .any l.toArray = true)
    (h : wpQuietIn F n P l.toArray (fun w' => ∃ n, w' = w.drewN n) (fun a' => ∀ w', (∃ n, w' = w.drewN n) → Q .normal a' w') l a) : (Code.region id l.toArray true).wpIn F n P Q a w := by
  have hB' := hB
  simp only [Region.lexB, Bool.and_eq_true] at hB'
  have hnd' : ∀ (i : Nat) (o : Oper), l.toArray[i]? = some o → ∀ c, o.op ≠ .defer c := by
    intro i o ho c hc
    have hm : o ∈ l := by
      rw [List.getElem?_toArray] at ho
      exact List.mem_of_getElem? ho
    have := (List.all_eq_true.1 hnd) o hm
    rw [hc] at this
    cases this
  refine wpIn_region_any hm (wpAnyIn_of_quietR (C := fun w' => ∃ n, w' = w.drewN n) (Q := fun a' => ∀ w', (∃ n, w' = w.drewN n) → Q .normal a' w') hnd' (fun _ w' hw' h => h w' hw') _ _ _ _ ⟨1, rfl⟩ ?_)
  have := wpAnyQIn_lex (F := F) (n := n) (C := fun w' => ∃ n, w' = w.drewN n) (md := .any) hB'.1 l.toArray.toList 0 (Array.replicate l.toArray.size false) a (by simp) (by simpa using hB'.2) (by simpa using h)
  simpa using this
end
end Go.Proofs.Ytonppfebmeehcaa

/- told. -/
namespace Go.Proofs.Ytonppfebmeehcaa
open Go.RowKit
set_option linter.unusedVariables false
set_option linter.unusedSimpArgs false
attribute [local go_sem] Oper.semAt_some

@[go_sem] theorem eqlNil (f : Fn) (ts : Array Value) (cs : Array Value) (w : World) : (binOp .eql 82 (.func f ts cs) .nilFunc).run Try.prog w = .ok (.bool false) w := by
  simp [binOp, go_sem]
  unfold Op.equal Op.maxDepth Op.equalIn
  kernel_rfl
theorem dZ_at {ns : List DN} {k : Nat} {x : Nat × Array Value} (h : (dZ ns)[k]? = some x) : ∃ hk : k < (dAll ns ns.length).length, (dAll ns ns.length)[k] = x.1 ∧ ∃ hx : x.1 < ns.length, dnH ns[x.1] = x.2 := by
  unfold dZ at h
  rw [List.getElem?_map] at h
  cases hj : (dAll ns ns.length)[k]? with
  | none => rw [hj] at h; cases h
  | some p =>
    rw [hj] at h
    obtain ⟨hk, hp⟩ := List.getElem?_eq_some_iff.1 hj
    have hm := List.getElem_mem hk
    rw [hp] at hm
    unfold dAll at hm
    rw [List.mem_filter, List.mem_range] at hm
    have e : x = (p, dnH ((ns[p]?).join)) := (Option.some.inj h).symm
    subst e
    have hm1 := hm.1
    have e3 : (ns[p]?).join = ns[p] := by rw [List.getElem?_eq_getElem hm1]; rfl
    exact ⟨hk, hp, hm1, congrArg dnH e3.symm⟩
/-- Between two rounds. -/
def TdI (w5 : World) (B9 stop : Nat) (pre : List (Nat × Array Value)) (D : List Nat) (W : World) : Prop :=
  D = [B9] ∧ W.heap[B9]? = some (.cells #[.int .i64 (pre.length : Nat)] 3 (0, 0)) ∧ ¬ (0 < stop ∧ stop ≤ pre.length) ∧ Chg [B9] w5 W
def TdX (w5 : World) (B9 stop : Nat) (c : Code) (pre : List (Nat × Array Value)) (D : List Nat) (W : World) : Prop :=
  c = .exit 0 ∧ D = [B9] ∧ W.heap[B9]? = some (.cells #[.int .i64 (pre.length : Nat)] 3 (0, 0)) ∧ 0 < stop ∧ stop = pre.length ∧ Chg [B9] w5 W
def TdA (w5 : World) (B9 stop : Nat) (a : Nat × Array Value → Nat → Act) (x : Nat × Array Value) (a' : Act) (pre : List (Nat × Array Value)) (D : List Nat) (W : World) : Prop :=
  ∃ B, D = [B, B9] ∧ a' = a x B ∧ W.heap[B]? = some (.cells x.2 30 (0, 0)) ∧ B ≠ B9 ∧ w5.heap.size ≤ B ∧ W.heap[B9]? = some (.cells #[.int .i64 (pre.length : Nat)] 3 (0, 0)) ∧ ¬ (0 < stop ∧ stop ≤ pre.length) ∧ Chg [B9] w5 W
theorem TdI.stays (w5 : World) (B9 stop : Nat) : Stays w5.heap.size (TdI w5 B9 stop) := by
  rintro pre D W W' F ⟨rfl, h1, h2, h3⟩ hcF hF
  exact ⟨rfl, hcF.at h1 (fun h => (hF _ h).1 (by simp)), h2, h3.trans hcF (fun x hx => .inr (hF x hx).2)⟩
theorem TdX.stays (w5 : World) (B9 stop : Nat) (c : Code) : Stays w5.heap.size (TdX w5 B9 stop c) := by
  rintro pre D W W' F ⟨h0, rfl, h1, h2, h3, h4⟩ hcF hF
  exact ⟨h0, rfl, hcF.at h1 (fun h => (hF _ h).1 (by simp)), h2, h3, h4.trans hcF (fun x hx => .inr (hF x hx).2)⟩
theorem TdA.stays (w5 : World) (B9 stop : Nat) (a : Nat × Array Value → Nat → Act) (x : Nat × Array Value) (a' : Act) : Stays w5.heap.size (TdA w5 B9 stop a x a') := by
  rintro pre D W W' F ⟨B, rfl, h0, h1, h2, h3, h4, h5, h6⟩ hcF hF
  exact ⟨B, rfl, h0, hcF.at h1 (fun h => (hF _ h).1 (by simp)), h2, h3, hcF.at h4 (fun h => (hF _ h).1 (by simp)), h5, h6.trans hcF (fun x hx => .inr (hF x hx).2)⟩
theorem res_bool1 {fn : Func} {p : Tmp} (h : fn.results = #[.cell p 4]) (tmps : Array Value) (w : World) {b : Nat} {x : Bool} (hp : tmps.getD p undef = .pointer (some ⟨b, 0, none⟩)) (hc : w.cell? ⟨b, 0, none⟩ = some (.bool x)) :
    (results fn tmps).run Try.prog w = .ok (.bool x) w := by
  have hp' : tmps[p]?.getD undef = .pointer (some ⟨b, 0, none⟩) := by simpa using hp
  simp [results, h, hp', asAddr, go_sem, hc]
theorem td_end {tmps : Array Value} {w W : World} {B6 D : Nat} {F : List Nat} (hw : w.heap.size ≤ B6) (hD : w.heap.size ≤ D) (hne : B6 ≠ D) (hc : Chg F w W) (hF : ∀ k ∈ F, w.heap.size ≤ k) (hK : W.heap[D]? = some (.deferred (some []))) (h6 : W.heap[B6]? = some (.cells #[.bool false] 4 (0, 0))) (htm : tmps.getD 6 undef = .pointer (some ⟨B6, 0, none⟩)) :
    bodyPostM Fence.wide 0 Try.prog Try.f61 (Res w [] (.bool true)) .ret { tmps := tmps, defers := [{ target := .collected D, args := #[] }] } (W.setCell ⟨B6, 0, none⟩ (.bool true)) := by
  have hs : Chg [B6] W (W.setCell ⟨B6, 0, none⟩ (.bool true)) := (Chg.refl _ _).setCell (.inl (by simp)) _
  have h6' := blk_set h6 0 (.bool true)
  have hKr := hs.at hK (by simp; exact fun e => hne e.symm)
  have hp := chg_put (W.setCell ⟨B6, 0, none⟩ (.bool true)) D (.deferred none)
  have hz := hc.size
  refine ⟨by simp, .inl ⟨_, _, rfl, run_takeDeferred hKr, ?_⟩⟩
  refine ⟨_, res_bool1 rfl _ _ htm (blk_cell (hp.at h6' (by simpa using hne)) 0 rfl), rfl, ?_⟩
  have c1 : Chg [] w W := ⟨hc.os, hc.tape, hc.output, hc.size, fun k hk _ => hc.block k hk (fun h => by have := hF k h; omega)⟩
  exact (c1.trans hs (fun x hx => .inr (by simp at hx; omega))).trans hp (fun x hx => .inr (by simp at hx; omega))
section
variable {w : World} {b c m : Nat} {s : SS} {d : DS}
set_option maxRecDepth 100000 in
set_option maxHeartbeats 4000000 in
theorem told_calls (h : Tw w b s c d m) (hm : m ≤ 1000) (stop : Nat) (hs : stop < 1000) : Calls Try.prog 61 #[.pointer (some ⟨b, 0, none⟩), .pointer (some ⟨c, 0, none⟩), .int .i64 stop] w (Res w [] (.bool true)) := by
  refine callsIn_wide (n := 0).1 ?_
  refine callsIn_of_wp_marks Try.func61 rfl trivial ?_ rfl
  simp only [Try.ntmps61, List.size_toArray, List.length_cons, List.length_nil, Nat.reduceAdd, Nat.reduceSub, Array.replicate_succ, Array.replicate_zero, List.push_toArray, List.append_toArray, List.nil_append, List.cons_append]
  gi_wp2
  have hc3 : Chg [] w (((w.alloc (.cells #[.pointer (some ⟨c, 0, none⟩)] 60)).alloc (.cells #[.int .i64 stop] 3)).alloc (.cells #[.bool false] 4)) := (((Chg.refl _ _).alloc _).alloc _).alloc _
  have b4 := blk_alloc (blk_alloc (blk_new w (.cells #[.pointer (some ⟨c, 0, none⟩)] 60)) (.cells #[.int .i64 stop] 3)) (.cells #[.bool false] 4)
  have b5 := blk_alloc (blk_new (w.alloc (.cells #[.pointer (some ⟨c, 0, none⟩)] 60)) (.cells #[.int .i64 stop] 3)) (.cells #[.bool false] 4)
  have b6 := blk_new ((w.alloc (.cells #[.pointer (some ⟨c, 0, none⟩)] 60)).alloc (.cells #[.int .i64 stop] 3)) (.cells #[.bool false] 4)
  rw [World.size_alloc] at b5
  rw [World.size_alloc, World.size_alloc] at b6
  have hz3 : (((w.alloc (.cells #[.pointer (some ⟨c, 0, none⟩)] 60)).alloc (.cells #[.int .i64 stop] 3)).alloc (.cells #[.bool false] 4)).heap.size = w.heap.size + 3 := by simp
  generalize ((w.alloc (.cells #[.pointer (some ⟨c, 0, none⟩)] 60)).alloc (.cells #[.int .i64 stop] 3)).alloc (.cells #[.bool false] 4) = w3 at *
  have q4 : w3.cell? ⟨w.heap.size, 0, none⟩ = some (.pointer (some ⟨c, 0, none⟩)) := blk_cell b4 0 rfl
  have hpl := rplaces_calls c d w3 (h.rf.chg0 hc3)
  have hlt4 : w.heap.size < w3.heap.size := by omega
  gi_wp2_with (refine ⟨trivial, rfl, ?_⟩; first
    | (gi_at_call 78; refine (callsIn_wide.2 hpl).mono ?_; rintro e w4 ⟨v, rfl, hO, hc4⟩; obtain ⟨a, cap, rfl⟩ := hO.shp; have hz4 := hc4.size)
    | (gi_at_call 45; refine (callsIn_wide.2 (all_calls _ _)).mono ?_; rintro e w6 ⟨rfl, rfl⟩))
  have hc5 : Chg [] w4 (((w4.alloc (.cells #[.slice a (dAll d.ns d.ns.length).length cap] 36)).alloc (.cells #[.pointer (some ⟨b, 0, none⟩)] 49)).alloc (.cells #[.int .i64 0] 3)) := (((Chg.refl _ _).alloc _).alloc _).alloc _
  have b7 := blk_alloc (blk_alloc (blk_new w4 (.cells #[.slice a (dAll d.ns d.ns.length).length cap] 36)) (.cells #[.pointer (some ⟨b, 0, none⟩)] 49)) (.cells #[.int .i64 0] 3)
  have b8 := blk_alloc (blk_new (w4.alloc (.cells #[.slice a (dAll d.ns d.ns.length).length cap] 36)) (.cells #[.pointer (some ⟨b, 0, none⟩)] 49)) (.cells #[.int .i64 0] 3)
  have b9 := blk_new ((w4.alloc (.cells #[.slice a (dAll d.ns d.ns.length).length cap] 36)).alloc (.cells #[.pointer (some ⟨b, 0, none⟩)] 49)) (.cells #[.int .i64 0] 3)
  rw [World.size_alloc] at b8
  rw [World.size_alloc, World.size_alloc] at b9
  have hz5 : (((w4.alloc (.cells #[.slice a (dAll d.ns d.ns.length).length cap] 36)).alloc (.cells #[.pointer (some ⟨b, 0, none⟩)] 49)).alloc (.cells #[.int .i64 0] 3)).heap.size = w4.heap.size + 3 := by simp
  generalize ((w4.alloc (.cells #[.slice a (dAll d.ns d.ns.length).length cap] 36)).alloc (.cells #[.pointer (some ⟨b, 0, none⟩)] 49)).alloc (.cells #[.int .i64 0] 3) = w5 at *
  have hc35 := hc4.nil_trans hc5
  have hc05 := hc3.nil_trans hc35
  have h5 := h.chg0 hc05
  have b4' := hc35.at b4 (by simp)
  have b5' := hc35.at b5 (by simp)
  have b6' := hc35.at b6 (by simp)
  have hO5 := own_chg hO hc5 (by simp)
  have hfl := h.st.lt
  have hZ := allZ h5.st h5.same
  have hN : (dAll d.ns d.ns.length).length = (dZ d.ns).length := by unfold dZ; rw [List.length_map]
  have HN := Lib.hid hN
  have hNle : (dAll d.ns d.ns.length).length ≤ 1000 := by
    have := dAll_le d.ns d.ns.length
    have := h.same.n
    have := h.n
    omega
  have hOl := fun k hk => (own_lt hO k hk).2
  clear q4 hpl hlt4 hO b4 b5 b6 hc4 hc5 hN
  refine wpIn_range (gf := 66) (lb := #[.pointer (some ⟨w4.heap.size + 1, 0, none⟩)]) rfl (enters_of Try.func66 (by kernel_rfl) rfl) (all_seq (w4.heap.size + 1) b s w5 b8 h5.st) (Chg.refl _ _) (fun _ => rfl)
    (TdI w5 (w4.heap.size + 1 + 1) stop) (TdX w5 (w4.heap.size + 1 + 1) stop) [w4.heap.size + 1 + 1] (fun k hk => by simp at hk; subst hk; exact ⟨by omega, fun h => by
      rcases List.mem_cons.1 h with e | e
      · omega
      · have := hfl _ e; omega⟩) (fun k hk => by
      rcases List.mem_cons.1 hk with e | e
      · omega
      · have := hfl _ e; omega)
    (TdI.stays _ _ _) (TdX.stays _ _ _) ⟨rfl, b9, by simp; omega, Chg.refl _ _⟩
    (TdA w5 (w4.heap.size + 1 + 1) stop (fun x B => { tmps := #[.pointer (some ⟨b, 0, none⟩), .pointer (some ⟨c, 0, none⟩), .int .i64 ((stop : Nat) : Int), undef, .pointer (some ⟨w.heap.size, 0, none⟩), .pointer (some ⟨w.heap.size + 1, 0, none⟩), .pointer (some ⟨w.heap.size + 1 + 1, 0, none⟩), .pointer (some ⟨w4.heap.size, 0, none⟩), .func (.func 66) #[] #[.pointer (some ⟨w4.heap.size + 1, 0, none⟩)], .pointer (some ⟨w4.heap.size + 1 + 1, 0, none⟩), .int .u64 ((x.1 : Nat) : Int), .pointer (some ⟨B, 0, none⟩), .pointer (some ⟨c, 0, none⟩), .slice a (dAll d.ns d.ns.length).length cap, .pointer (some ⟨b, 0, none⟩), .func (.func 66) #[] #[.pointer (some ⟨w4.heap.size + 1, 0, none⟩)], .func (.func 66) #[] #[.pointer (some ⟨w4.heap.size + 1, 0, none⟩)], .bool false, .func (.func 66) #[] #[.pointer (some ⟨w4.heap.size + 1, 0, none⟩)], .int .u64 ((x.1 : Nat) : Int), .agg x.2, undef, undef, undef, undef, undef, undef, undef, undef, undef, undef, undef, undef, undef, undef, undef, undef, undef, undef, undef, undef, undef, undef, undef, undef, undef, undef, undef, undef, undef, undef, undef, undef, undef, undef, undef, undef, undef, undef, undef, undef, undef, undef, undef, undef], defers := [] }))
    (fun x a' => TdA.stays _ _ _ _ x a') ?assign ?body ?done ?stop
  case assign =>
    rintro l pre x W D1 K ⟨rfl, hb, hns, hc⟩ hd hsp hK
    have hx := hsp
    have hxs : x.2.size = 32 ∧ one1 x.2 = true := by
      obtain ⟨xs, hxs, hp⟩ := hsp
      have hm : x ∈ xs := hp.subset (by simp)
      have hn := (hxs.mem x.1 x.2).1 hm
      obtain ⟨_, _, _, _, hh⟩ := node_ptr h5.st hn
      exact ⟨hh.1, hh.one⟩
    obtain ⟨hx1, hx2⟩ := hxs
    gi_wp2
    have hz := hc.size
    refine hK _ _ [W.heap.size, w4.heap.size + 1 + 1] (fun k hk => ?_) ((Chg.refl _ _).alloc _) ⟨W.heap.size, rfl, rfl, blk_new W _, by omega, by omega, blk_alloc hb _, hns, hc.alloc _⟩
    simp at hk
    rcases hk with rfl | rfl
    · exact ⟨by simp, .inr (Nat.le_refl _)⟩
    · exact ⟨by simp; omega, .inl (by simp)⟩
  case body =>
    rintro l pre x a' W D1 ⟨B, rfl, rfl, hB, hne, hge, hb, hns, hc⟩ hd hsp
    have hxk : (dZ d.ns)[pre.length]? = some x := by
      obtain ⟨xs, hxs, t, ht⟩ := hsp
      rw [← hxs.uniq hZ, ← ht]
      simp
    obtain ⟨hk, e1, hx, e2⟩ := dZ_at hxk
    have hxh : IsHash x.2 := by rw [← e2]; exact (h.rf.ok _ (List.getElem_mem hx)).is.1
    have hx1 := hxh.1
    have hx2 := hxh.one
    have hz := hc.size
    have hOW := own_chg hO5 hc (fun k hk h => by have := hOl k hk; simp at h; omega)
    obtain ⟨g, rfl, hcell⟩ := UOwn.cell hOW hk
    rw [e1] at hcell
    have hg := World.block_lt_of_cell? _ _ hcell
    have hD := h5.rf.chg hc (fun k hk => by have := h.rf.lt k hk; simp; omega)
    obtain ⟨gd, hA, hne2, hat⟩ := hD.at hx
    have c1 := hD.c1
    rw [hA] at c1
    have hrh := hat.hash
    rw [e2] at hrh
    have hgd := hat.lt
    have hcl := hD.blt
    have q4 : W.cell? ⟨w.heap.size, 0, none⟩ = some (.pointer (some ⟨c, 0, none⟩)) := blk_cell (hc.at b4' (by simp; omega)) 0 rfl
    have q5 : W.cell? ⟨w.heap.size + 1, 0, none⟩ = some (.int .i64 stop) := blk_cell (hc.at b5' (by simp; omega)) 0 rfl
    have q7 : W.cell? ⟨w4.heap.size, 0, none⟩ = some (.slice (some ⟨g, 0, none⟩) (dAll d.ns d.ns.length).length cap) := blk_cell (hc.at b7 (by simp; omega)) 0 rfl
    have q9 : W.cell? ⟨w4.heap.size + 1 + 1, 0, none⟩ = some (.int .i64 (pre.length : Nat)) := blk_cell hb 0 rfl
    have q9f : W.frozen? ⟨w4.heap.size + 1 + 1, 0, none⟩ = false := blk_frozen hb 0
    have q11 : rng? W B 0 32 = some x.2 := rng?_row hB hx1
    have hBl := blk_lt hB
    have hbl := blk_lt hb
    have d1 : decide (((dAll d.ns d.ns.length).length : Int) ≤ (pre.length : Int)) = false := by simp; omega
    have d2 : decide ((dAll d.ns d.ns.length).length ≤ pre.length) = false := by simp; omega
    have hee : eqH x.2 x.2 = true := eqH_self
    have hfin : ∀ n : Nat, n = pre.length + 1 → (W.setCell ⟨w4.heap.size + 1 + 1, 0, none⟩ (.int .i64 (n : Nat))).heap[w4.heap.size + 1 + 1]? = some (.cells #[.int .i64 ((pre ++ [x]).length : Nat)] 3 (0, 0)) := fun n hn => by
      rw [blk_set hb 0 _, hn]
      simp
    have hcf : Chg [w4.heap.size + 1 + 1] W (W.setCell ⟨w4.heap.size + 1 + 1, 0, none⟩ (.int .i64 ((pre.length : Int) + 1))) := (Chg.refl _ _).setCell (.inl (by simp)) _
    have hall : ∀ nq, Dok [B, w4.heap.size + 1 + 1] W [w4.heap.size + 1 + 1] ((W.drewN nq).setCell ⟨w4.heap.size + 1 + 1, 0, none⟩ (.int .i64 ((pre.length : Int) + 1))) ∧ Chg [B, w4.heap.size + 1 + 1] W ((W.drewN nq).setCell ⟨w4.heap.size + 1 + 1, 0, none⟩ (.int .i64 ((pre.length : Int) + 1))) ∧
        ((W.drewN nq).setCell ⟨w4.heap.size + 1 + 1, 0, none⟩ (.int .i64 ((pre.length : Int) + 1))).heap[w4.heap.size + 1 + 1]? = some (.cells #[.int .i64 ((pre ++ [x]).length : Nat)] 3 (0, 0)) ∧ Chg [w4.heap.size + 1 + 1] w5 ((W.drewN nq).setCell ⟨w4.heap.size + 1 + 1, 0, none⟩ (.int .i64 ((pre.length : Int) + 1))) := fun nq => by
      have h1 := hfin (pre.length + 1) rfl
      have h2 : Chg [w4.heap.size + 1 + 1] W ((W.drewN nq).setCell ⟨w4.heap.size + 1 + 1, 0, none⟩ (.int .i64 ((pre.length : Int) + 1))) := ((Chg.refl _ _).drewN nq).setCell (.inl (by simp)) _
      refine ⟨fun q hq => ?_, h2.mono (fun q hq _ => by simp at hq; simp [hq]), h1, hc.trans h2 (fun q hq => .inl hq)⟩
      simp at hq
      subst hq
      exact ⟨by have := h2.size; omega, .inl (by simp)⟩
    have HF := Lib.hid hall
    clear hall
    have HNS := Lib.hid hns
    have HD := Lib.hid hc
    clear hfin hns hc hd hsp hxk hOW hD hat hZ hO5 hA e1 e2 hOl hfl b4' b5' b6' b7 b8 b9 hB hb h5 hc05 hc35
    generalize hNN : (dAll d.ns d.ns.length).length = N at *
    generalize hkk : pre.length = k at *
    gi_wp2
    refine wpIn_region_round (by kernel_rfl) (by kernel_rfl) (by kernel_rfl) ?_
    repeat (gi_big_quiet_step (fail))
    refine wpQuietIn_nil ?_
    rintro _ ⟨nq, rfl⟩
    by_cases hst : stop = k + 1
    · have HST := Lib.hid hst
      subst hst
      gi_wp2
      obtain ⟨f1, f2, f3, f4⟩ := HF.out nq
      exact ⟨_, f1, f2, rfl, rfl, f3, by omega, by simp [hkk], f4⟩
    · have d3 : ((k : Int) + 1 == (stop : Int)) = false := by simp; omega
      have HST := Lib.hid hst
      gi_wp2
      obtain ⟨f1, f2, f3, f4⟩ := HF.out nq
      exact ⟨_, f1, f2, rfl, f3, fun ⟨g1, g2⟩ => by
        simp [hkk] at g2
        have := HNS.out
        have := HST.out
        exact HNS.out ⟨g1, by omega⟩, f4⟩
  case done =>
    rintro D xs D1 W hD hDn hS ⟨rfl, hb, hns, hc⟩ hK
    have hxs : xs.length = (dAll d.ns d.ns.length).length := by rw [hS.uniq hZ]; exact HN.out.symm
    rw [hxs] at hb hns
    have hz := hc.size
    have q5 : W.cell? ⟨w.heap.size + 1, 0, none⟩ = some (.int .i64 stop) := blk_cell (hc.at b5' (by simp; omega)) 0 rfl
    have hB6 := hc.at b6' (by simp; omega)
    have q6 : W.cell? ⟨w.heap.size + 1 + 1, 0, none⟩ = some (.bool false) := blk_cell hB6 0 rfl
    have q6f : W.frozen? ⟨w.heap.size + 1 + 1, 0, none⟩ = false := blk_frozen hB6 0
    have HB6 := Lib.hid hB6
    have q7 : W.cell? ⟨w4.heap.size, 0, none⟩ = some (.slice a (dAll d.ns d.ns.length).length cap) := blk_cell (hc.at b7 (by simp; omega)) 0 rfl
    have q9 : W.cell? ⟨w4.heap.size + 1 + 1, 0, none⟩ = some (.int .i64 ((dAll d.ns d.ns.length).length : Nat)) := blk_cell hb 0 rfl
    have hDs := blk_lt hK
    have HC := Lib.hid ((hc05.of_nil (F := [w4.heap.size + 1 + 1])).trans hc (fun q hq => .inl hq))
    clear hS hxs hc hb hB6 hZ hO5 hOl hfl b4' b5' b6' b7 b8 b9 h5 hc05 hc35
    have hnx : stop = 0 ∨ (dAll d.ns d.ns.length).length < stop := by
      rcases Nat.eq_zero_or_pos stop with e | e
      · exact .inl e
      · exact .inr (by
          by_cases hh : stop ≤ (dAll d.ns d.ns.length).length
          · exact absurd ⟨e, hh⟩ hns
          · omega)
    clear hns
    generalize hNN : (dAll d.ns d.ns.length).length = N at *
    have hne6 : w.heap.size + 1 + 1 ≠ D := by omega
    rcases hnx with rfl | hlt
    · gi_wp2
      exact td_end (by omega) (by omega) hne6 HC.out (by simp; omega) hK HB6.out rfl
    · have d1 : decide (0 < stop) = true := by simp; omega
      have d2 : decide (stop < N) = false := by simp; omega
      have d3 : decide ((0 : Int) < (stop : Int)) = true := by simp; omega
      have d4 : decide ((stop : Int) < (N : Int)) = false := by simp; omega
      gi_wp2
      exact td_end (by omega) (by omega) hne6 HC.out (by simp; omega) hK HB6.out rfl
  case stop =>
    rintro D cd pre D1 W hD hDn hSp ⟨rfl, rfl, hb, h0, hst, hc⟩ hK
    have hle : pre.length ≤ (dAll d.ns d.ns.length).length := by
      obtain ⟨xs, hxs, hp⟩ := hSp
      have := hp.length_le
      rw [hxs.uniq hZ] at this
      rw [HN.out]
      exact this
    rw [← hst] at hb hle
    have hz := hc.size
    have q5 : W.cell? ⟨w.heap.size + 1, 0, none⟩ = some (.int .i64 stop) := blk_cell (hc.at b5' (by simp; omega)) 0 rfl
    have hB6 := hc.at b6' (by simp; omega)
    have q6 : W.cell? ⟨w.heap.size + 1 + 1, 0, none⟩ = some (.bool false) := blk_cell hB6 0 rfl
    have q6f : W.frozen? ⟨w.heap.size + 1 + 1, 0, none⟩ = false := blk_frozen hB6 0
    have q7 : W.cell? ⟨w4.heap.size, 0, none⟩ = some (.slice a (dAll d.ns d.ns.length).length cap) := blk_cell (hc.at b7 (by simp; omega)) 0 rfl
    have q9 : W.cell? ⟨w4.heap.size + 1 + 1, 0, none⟩ = some (.int .i64 (stop : Nat)) := blk_cell hb 0 rfl
    have hDs := blk_lt hK
    have HC := Lib.hid ((hc05.of_nil (F := [w4.heap.size + 1 + 1])).trans hc (fun q hq => .inl hq))
    have HB6 := Lib.hid hB6
    clear hSp hst hc hb hB6 hZ hO5 hOl hfl b4' b5' b6' b7 b8 b9 h5 hc05 hc35
    generalize hNN : (dAll d.ns d.ns.length).length = N at *
    have hne6 : w.heap.size + 1 + 1 ≠ D := by omega
    have d1 : decide (0 < stop) = true := by simp; omega
    have d3 : decide ((0 : Int) < (stop : Int)) = true := by simp; omega
    by_cases hlt : stop < N
    · have d2 : decide (stop < N) = true := by simp; omega
      have d4 : decide ((stop : Int) < (N : Int)) = true := by simp; omega
      gi_wp2
      exact td_end (by omega) (by omega) hne6 HC.out (by simp; omega) hK HB6.out rfl
    · obtain rfl : stop = N := by omega
      have d2 : decide (stop < stop) = false := by simp
      have d4 : decide ((stop : Int) < (stop : Int)) = false := by simp
      gi_wp2
      exact td_end (by omega) (by omega) hne6 HC.out (by simp; omega) hK HB6.out rfl
end
end Go.Proofs.Ytonppfebmeehcaa

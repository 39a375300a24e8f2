/- What a store's All tells: plain. -/
import Derived.Test.YtonppfebmeehcaaStF
namespace Go.Proofs.Ytonppfebmeehcaa
open Go.RowKit
set_option linter.unusedVariables false
set_option linter.unusedSimpArgs false

/-- The first n nodes of a chunk, those that live. -/
def ckUp (lg : Nat) (x : Ck) : Nat → List (Nat × Array Value)
  | 0 => []
  | n + 1 => ckUp lg x n ++ ((x.ns[n]?).join.map fun h => (x.k * 2 ^ lg + n, h)).toList
def SS.atKey (s : SS) (k : Nat) : Option Ck := s.cks.find? fun x => decide (x.k = k)
def SS.ofKey (s : SS) (k : Nat) : List (Nat × Array Value) := match s.atKey k with
  | some x => ckUp s.log x x.ns.length
  | none => []
/-- The nodes of the chunks of these keys. -/
def SS.allOf (s : SS) (ks : List Nat) : List (Nat × Array Value) := ks.flatMap s.ofKey
/-- The list of all that live: rising, just those. -/
structure AllIs (s : SS) (xs : List (Nat × Array Value)) : Prop where
  up : (xs.map (·.1)).Pairwise (· < ·)
  mem : ∀ p h, (p, h) ∈ xs ↔ s.node p = some h
  len : xs.length = s.alive
def AllPre (s : SS) (pre : List (Nat × Array Value)) : Prop := ∃ xs, AllIs s xs ∧ pre <+: xs

theorem ckUp_mem {lg : Nat} {x : Ck} {p : Nat} {h : Array Value} : ∀ {n : Nat}, (p, h) ∈ ckUp lg x n ↔ ∃ i, i < n ∧ p = x.k * 2 ^ lg + i ∧ (x.ns[i]?).join = some h := by
  intro n
  induction n with
  | zero => simp [ckUp]
  | succ n ih =>
    rw [ckUp, List.mem_append, ih]
    constructor
    · rintro (⟨i, hi, h1, h2⟩ | hm)
      · exact ⟨i, by omega, h1, h2⟩
      · cases hj : (x.ns[n]?).join with
        | none => rw [hj] at hm; simp at hm
        | some q =>
          rw [hj] at hm
          simp at hm
          exact ⟨n, by omega, hm.1, by rw [hj, hm.2]⟩
    · rintro ⟨i, hi, h1, h2⟩
      by_cases hin : i = n
      · subst hin
        right
        rw [h2, h1]
        simp
      · left
        exact ⟨i, by omega, h1, h2⟩
theorem ckUp_up (lg : Nat) (x : Ck) : ∀ (n : Nat), ((ckUp lg x n).map (·.1)).Pairwise (· < ·) := by
  intro n
  induction n with
  | zero => simp [ckUp]
  | succ n ih =>
    rw [ckUp, List.map_append, List.pairwise_append]
    refine ⟨ih, ?_, ?_⟩
    · cases (x.ns[n]?).join <;> simp
    · intro a ha b hb
      obtain ⟨⟨p, h⟩, hp, rfl⟩ := List.mem_map.1 ha
      obtain ⟨i, hi, h1, _⟩ := ckUp_mem.1 hp
      cases hj : (x.ns[n]?).join with
      | none => rw [hj] at hb; simp at hb
      | some q =>
        rw [hj] at hb
        simp at hb
        subst hb
        simp only
        omega
theorem atKey_mem {s : SS} {k : Nat} {x : Ck} (h : s.atKey k = some x) : x ∈ s.cks ∧ x.k = k := ⟨List.mem_of_find?_eq_some h, by simpa using List.find?_some h⟩
theorem ofKey_mem {s : SS} (hok : s.ok) {k p : Nat} {h : Array Value} (hm : (p, h) ∈ s.ofKey k) : qk s.log p = k ∧ s.node p = some h := by
  unfold SS.ofKey at hm
  cases hk : s.atKey k with
  | none => rw [hk] at hm; simp at hm
  | some x =>
    rw [hk] at hm
    obtain ⟨hx, hxk⟩ := atKey_mem hk
    obtain ⟨i, hi, rfl, hj⟩ := ckUp_mem.1 hm
    have hlen := (hok.key x hx).1
    have hpos : 0 < 2 ^ s.log := Nat.two_pow_pos _
    have e1 : qk s.log (x.k * 2 ^ s.log + i) = x.k := by
      unfold qk
      rw [Nat.mul_comm, Nat.mul_add_div hpos, Nat.div_eq_of_lt (by omega), Nat.add_zero]
    have e2 : qa s.log (x.k * 2 ^ s.log + i) = i := by
      unfold qa
      rw [Nat.mul_comm, Nat.mul_add_mod, Nat.mod_eq_of_lt (by omega)]
    refine ⟨e1.trans hxk, ?_⟩
    unfold SS.node SS.look
    rw [e1, hxk]
    unfold SS.atKey at hk
    rw [hk, Option.bind_some, ← hxk, e2, hj]
theorem ofKey_has {s : SS} {p : Nat} {h : Array Value} (hn : s.node p = some h) : (p, h) ∈ s.ofKey (qk s.log p) ∧ qk s.log p ∈ s.cks.map (·.k) := by
  unfold SS.node at hn
  rw [Option.bind_eq_some_iff] at hn
  obtain ⟨x, hx, hj⟩ := hn
  obtain ⟨hxm, hxk⟩ := look_mem hx
  refine ⟨?_, List.mem_map.2 ⟨x, hxm, hxk⟩⟩
  have hk : s.atKey (qk s.log p) = some x := hx
  unfold SS.ofKey
  rw [hk]
  simp only
  rw [ckUp_mem]
  have hlt : qa s.log p < x.ns.length := by
    by_cases hq : qa s.log p < x.ns.length
    · exact hq
    · rw [List.getElem?_eq_none (by omega)] at hj; cases hj
  refine ⟨qa s.log p, hlt, ?_, hj⟩
  rw [hxk]
  unfold qk qa
  exact (Nat.div_add_mod' p (2 ^ s.log)).symm
theorem ofKey_up (s : SS) (k : Nat) : ((s.ofKey k).map (·.1)).Pairwise (· < ·) := by
  unfold SS.ofKey
  cases s.atKey k with
  | none => simp
  | some x => exact ckUp_up _ _ _
theorem ckUp_len (lg : Nat) (x : Ck) : ∀ n, n ≤ x.ns.length → (ckUp lg x n).length = liveOf (x.ns.take n) := by
  intro n
  induction n with
  | zero => intro _; simp [ckUp, liveOf]
  | succ n ih =>
    intro h
    rw [ckUp, List.length_append, ih (by omega), List.take_succ_eq_append_getElem (by omega : n < x.ns.length)]
    unfold liveOf
    rw [List.countP_append, List.getElem?_eq_getElem (by omega)]
    cases x.ns[n] <;> simp
theorem find_nodup {α : Type} (f : α → Nat) : ∀ {l : List α} {x : α}, (l.map f).Nodup → x ∈ l → l.find? (fun y => decide (f y = f x)) = some x := by
  intro l
  induction l with
  | nil => intro x _ h; simp at h
  | cons y l ih =>
    intro x hn hx
    simp only [List.map_cons, List.nodup_cons] at hn
    rcases List.mem_cons.1 hx with e | e
    · subst e; simp
    · have hne : ¬ f y = f x := fun q => hn.1 (q ▸ List.mem_map.2 ⟨x, e, rfl⟩)
      rw [List.find?_cons_of_neg (by simp [hne])]
      exact ih hn.2 e
theorem allOf_len {s : SS} {ks : List Nat} (hp : ks.Perm (s.cks.map (·.k))) (hn : ks.Nodup) : (s.allOf ks).length = s.alive := by
  have hn2 : (s.cks.map (·.k)).Nodup := (hp.nodup_iff).1 hn
  unfold SS.allOf SS.alive
  rw [List.length_flatMap]
  have h1 : (ks.map fun k => (s.ofKey k).length).sum = ((s.cks.map (·.k)).map fun k => (s.ofKey k).length).sum := (hp.map _).sum_nat
  rw [h1, List.map_map]
  congr 1
  refine List.map_congr_left (fun x hx => ?_)
  have : s.atKey x.k = some x := find_nodup Ck.k hn2 hx
  simp only [Function.comp, SS.ofKey, this]
  rw [ckUp_len _ _ _ (Nat.le_refl _), List.take_length]
theorem allOf_is {s : SS} (hok : s.ok) {ks : List Nat} (hp : ks.Perm (s.cks.map (·.k))) (hs : ks.Pairwise (· < ·)) : AllIs s (s.allOf ks) := by
  have hpos : 0 < 2 ^ s.log := Nat.two_pow_pos _
  refine ⟨?_, ?_, ?_⟩
  · have : ∀ l : List Nat, l.Pairwise (· < ·) → ((s.allOf l).map (·.1)).Pairwise (· < ·) := by
      intro l
      induction l with
      | nil => intro _; simp [SS.allOf]
      | cons k l ih =>
        intro hl
        rw [List.pairwise_cons] at hl
        have e : s.allOf (k :: l) = s.ofKey k ++ s.allOf l := by simp [SS.allOf]
        rw [e, List.map_append, List.pairwise_append]
        refine ⟨ofKey_up s k, ih hl.2, ?_⟩
        intro a ha b hb
        obtain ⟨⟨p, h⟩, hp1, rfl⟩ := List.mem_map.1 ha
        obtain ⟨⟨q, g⟩, hq1, rfl⟩ := List.mem_map.1 hb
        obtain ⟨k2, hk2, hq2⟩ := List.mem_flatMap.1 hq1
        have h1 := (ofKey_mem hok hp1).1
        have h2 := (ofKey_mem hok hq2).1
        have h3 := hl.1 k2 hk2
        unfold qk at h1 h2
        simp only
        by_cases hlt : p < q
        · exact hlt
        · have := Nat.div_le_div_right (c := 2 ^ s.log) (show q ≤ p by omega)
          omega
    exact this ks hs
  · intro p h
    constructor
    · intro hm
      obtain ⟨k, _, hk⟩ := List.mem_flatMap.1 hm
      exact (ofKey_mem hok hk).2
    · intro hn
      obtain ⟨h1, h2⟩ := ofKey_has hn
      exact List.mem_flatMap.2 ⟨_, hp.mem_iff.2 h2, h1⟩
  · exact allOf_len hp (hs.imp (fun h => by omega))
theorem allOf_take {s : SS} (ks : List Nat) (i : Nat) : s.allOf (ks.take i) <+: s.allOf ks := by
  refine ⟨s.allOf (ks.drop i), ?_⟩
  unfold SS.allOf
  rw [← List.flatMap_append, List.take_append_drop]
theorem ckUp_pre (lg : Nat) (x : Ck) : ∀ (m n : Nat), n ≤ m → ckUp lg x n <+: ckUp lg x m := by
  intro m
  induction m with
  | zero => intro n h; have : n = 0 := by omega
            subst this; exact List.prefix_refl _
  | succ m ih =>
    intro n h
    by_cases hn : n = m + 1
    · subst hn; exact List.prefix_refl _
    · exact (ih n (by omega)).trans ⟨_, rfl⟩
theorem pre_app {α : Type} {a b c d : List α} (h : b <+: c) (hd : a ++ c <+: d) : a ++ b <+: d := by
  obtain ⟨t, rfl⟩ := h
  obtain ⟨u, rfl⟩ := hd
  exact ⟨t ++ u, by simp [List.append_assoc]⟩
theorem allOf_next {s : SS} {ks : List Nat} {i : Nat} (hi : i < ks.length) {x : Ck} (hx : s.atKey ks[i] = some x) : s.allOf (ks.take i) ++ ckUp s.log x x.ns.length = s.allOf (ks.take (i + 1)) := by
  have e : ks.take (i + 1) = ks.take i ++ [ks[i]] := List.take_succ_eq_append_getElem hi
  rw [e]
  unfold SS.allOf
  rw [List.flatMap_append]
  congr 1
  simp [SS.ofKey, hx]
theorem allPre_at {s : SS} (hok : s.ok) {ks : List Nat} (hp : ks.Perm (s.cks.map (·.k))) (hs : ks.Pairwise (· < ·)) {i : Nat} (hi : i < ks.length) {x : Ck} (hx : s.atKey ks[i] = some x) {j : Nat} (hj : j ≤ x.ns.length) :
    AllPre s (s.allOf (ks.take i) ++ ckUp s.log x j) := by
  refine ⟨_, allOf_is hok hp hs, pre_app (ckUp_pre s.log x _ j hj) ?_⟩
  have e := allOf_next hi hx
  rw [e]
  exact allOf_take ks _
theorem AllPre.len {s : SS} {pre : List (Nat × Array Value)} (h : AllPre s pre) : pre.length ≤ s.alive := by
  obtain ⟨xs, hx, hp⟩ := h
  rw [← hx.len]
  exact hp.length_le
theorem AllIs.uniq {s : SS} {xs ys : List (Nat × Array Value)} (hx : AllIs s xs) (hy : AllIs s ys) : xs = ys := by
  have key : ∀ (xs ys : List (Nat × Array Value)), (xs.map (·.1)).Pairwise (· < ·) → (ys.map (·.1)).Pairwise (· < ·) → (∀ q, q ∈ xs ↔ q ∈ ys) → xs = ys := by
    intro xs
    induction xs with
    | nil =>
      intro ys _ _ h
      cases ys with
      | nil => rfl
      | cons y ys => exact absurd ((h y).2 (by simp)) (by simp)
    | cons x xs ih =>
      intro ys h1 h2 h
      cases ys with
      | nil => exact absurd ((h x).1 (by simp)) (by simp)
      | cons y ys =>
        simp only [List.map_cons, List.pairwise_cons] at h1 h2
        have hxy : x = y := by
          rcases List.mem_cons.1 ((h x).1 (by simp)) with e | e
          · exact e
          · rcases List.mem_cons.1 ((h y).2 (by simp)) with e2 | e2
            · exact e2.symm
            · have a := h2.1 x.1 (List.mem_map.2 ⟨x, e, rfl⟩)
              have b := h1.1 y.1 (List.mem_map.2 ⟨y, e2, rfl⟩)
              omega
        subst hxy
        rw [ih ys h1.2 h2.2 (fun q => ?_)]
        constructor
        · intro hq
          rcases List.mem_cons.1 ((h q).1 (by simp [hq])) with e | e
          · subst e
            have := h1.1 q.1 (List.mem_map.2 ⟨q, hq, rfl⟩)
            omega
          · exact e
        · intro hq
          rcases List.mem_cons.1 ((h q).2 (by simp [hq])) with e | e
          · subst e
            have := h2.1 q.1 (List.mem_map.2 ⟨q, hq, rfl⟩)
            omega
          · exact e
  exact key xs ys hx.up hy.up (fun ⟨p, h⟩ => by rw [hx.mem, hy.mem])
end Go.Proofs.Ytonppfebmeehcaa

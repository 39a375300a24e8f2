/- How many chunks there are, told place by place. Plain. -/
import Derived.Test.YtonppfebmeehcaaStF
import Derived.Test.YtonppfebmeehcaaItD
import Derived.Test.YtonppfebmeehcaaMapRng
namespace Go.Proofs.Ytonppfebmeehcaa
open Go.RowKit
set_option linter.unusedVariables false
set_option linter.unusedSimpArgs false
/-- How many chunks have been met ahead of place n, and the last one. -/
def cc (lv : Nat → Bool) (lg : Nat) : Nat → Nat × Option Nat
  | 0 => (0, none)
  | n + 1 => if lv n then (if (cc lv lg n).2 = some (n / 2 ^ lg) then cc lv lg n else ((cc lv lg n).1 + 1, some (n / 2 ^ lg))) else cc lv lg n
theorem countP_or {α : Type} (p q : α → Bool) : ∀ (l : List α), (∀ x ∈ l, ¬ (p x = true ∧ q x = true)) → l.countP (fun x => p x || q x) = l.countP p + l.countP q := by
  intro l
  induction l with
  | nil => intro _; rfl
  | cons x l ih =>
    intro h
    have h1 := ih (fun y hy => h y (by simp [hy]))
    have h2 := h x (by simp)
    simp only [List.countP_cons, h1]
    cases hp : p x <;> cases hq : q x <;> simp [hp, hq] at h2 ⊢ <;> omega
def metK (lv : Nat → Bool) (lg n k : Nat) : Bool := (List.range n).any fun q => lv q && decide (q / 2 ^ lg = k)
theorem metK_succ (lv : Nat → Bool) (lg n k : Nat) : metK lv lg (n + 1) k = (metK lv lg n k || (lv n && decide (n / 2 ^ lg = k))) := by
  unfold metK
  rw [List.range_succ, List.any_append]
  simp
theorem metK_iff (lv : Nat → Bool) (lg n k : Nat) : metK lv lg n k = true ↔ ∃ q, q < n ∧ lv q = true ∧ q / 2 ^ lg = k := by
  unfold metK
  simp [List.any_eq_true]
theorem cc_last (lv : Nat → Bool) (lg : Nat) : ∀ n, (∀ k, (cc lv lg n).2 = some k → metK lv lg n k = true) ∧ (∀ k, metK lv lg n k = true → ∃ j, (cc lv lg n).2 = some j ∧ k ≤ j) := by
  intro n
  induction n with
  | zero => exact ⟨by simp [cc], by simp [metK]⟩
  | succ n ih =>
    by_cases hl : lv n = true
    · have hbig : ∀ k, metK lv lg (n + 1) k = true → k ≤ n / 2 ^ lg := by
        intro k hk
        obtain ⟨q, hq, _, rfl⟩ := (metK_iff _ _ _ _).1 hk
        exact Nat.div_le_div_right (by omega)
      by_cases he : (cc lv lg n).2 = some (n / 2 ^ lg)
      · have e : cc lv lg (n + 1) = cc lv lg n := by rw [cc, if_pos hl, if_pos he]
        rw [e]
        exact ⟨fun k hk => by rw [metK_succ, ih.1 k hk]; rfl, fun k hk => ⟨_, he, hbig k hk⟩⟩
      · have e : cc lv lg (n + 1) = ((cc lv lg n).1 + 1, some (n / 2 ^ lg)) := by rw [cc, if_pos hl, if_neg he]
        rw [e]
        exact ⟨fun k hk => by injection hk with hk; subst hk; rw [metK_succ, hl]; simp, fun k hk => ⟨_, rfl, hbig k hk⟩⟩
    · have e : cc lv lg (n + 1) = cc lv lg n := by rw [cc, if_neg hl]
      have hl2 : lv n = false := by simpa using hl
      rw [e]
      exact ⟨fun k hk => by rw [metK_succ, ih.1 k hk]; rfl, fun k hk => ih.2 k (by rw [metK_succ, hl2] at hk; simpa using hk)⟩
theorem cc_count {s : SS} (hn : (s.cks.map (·.k)).Nodup) (n : Nat) : (cc (fun p => (s.node p).isSome) s.log n).1 = s.cks.countP (fun x => metK (fun p => (s.node p).isSome) s.log n x.k) := by
  induction n with
  | zero => simp [cc, metK]
  | succ n ih =>
    have hl := cc_last (fun p => (s.node p).isSome) s.log n
    by_cases hv : (s.node n).isSome = true
    · obtain ⟨h, hh⟩ := Option.isSome_iff_exists.1 hv
      obtain ⟨_, hk⟩ := ofKey_has hh
      obtain ⟨x, hx, hxk⟩ := List.mem_map.1 hk
      unfold qk at hxk
      by_cases he : (cc (fun p => (s.node p).isSome) s.log n).2 = some (n / 2 ^ s.log)
      · rw [cc, if_pos hv, if_pos he, ih]
        congr 1
        funext y
        rw [metK_succ]
        by_cases hy : n / 2 ^ s.log = y.k
        · rw [← hy, hl.1 _ he]; rfl
        · simp [hy]
      · rw [cc, if_pos hv, if_neg he]
        have hno : metK (fun p => (s.node p).isSome) s.log n (n / 2 ^ s.log) = false := by
          cases hm : metK (fun p => (s.node p).isSome) s.log n (n / 2 ^ s.log) with
          | false => rfl
          | true =>
            obtain ⟨j, hj, hle⟩ := hl.2 _ hm
            obtain ⟨q, hq, _, hqj⟩ := (metK_iff _ _ _ _).1 (hl.1 _ hj)
            have : q / 2 ^ s.log ≤ n / 2 ^ s.log := Nat.div_le_div_right (by omega)
            exact absurd (by rw [hj]; congr 1; omega) he
        have e1 : (fun x : Ck => metK (fun p => (s.node p).isSome) s.log (n + 1) x.k) = fun x => metK (fun p => (s.node p).isSome) s.log n x.k || decide (n / 2 ^ s.log = x.k) := by
          funext y
          rw [metK_succ, hv]
          simp
        rw [e1, countP_or _ _ _ (fun y hy ⟨a, b⟩ => by
          simp only [decide_eq_true_eq] at b
          rw [← b, hno] at a
          cases a), ih]
        congr 1
        have : s.cks.countP (fun y => decide (n / 2 ^ s.log = y.k)) = 1 := by
          have key : ∀ l : List Ck, (l.map (·.k)).Nodup → x ∈ l → l.countP (fun y => decide (n / 2 ^ s.log = y.k)) = 1 := by
            intro l
            induction l with
            | nil => intro _ h; simp at h
            | cons y l ih2 =>
              intro hnd hm
              simp only [List.map_cons, List.nodup_cons] at hnd
              rw [List.countP_cons]
              rcases List.mem_cons.1 hm with e | e
              · subst e
                have h0 : l.countP (fun y => decide (n / 2 ^ s.log = y.k)) = 0 := by
                  rw [List.countP_eq_zero]
                  intro z hz
                  simp only [decide_eq_true_eq]
                  intro e2
                  exact hnd.1 (List.mem_map.2 ⟨z, hz, by rw [← e2, hxk]⟩)
                rw [h0, if_pos (by simp [hxk])]
              · rw [ih2 hnd.2 e, if_neg]
                simp only [decide_eq_true_eq]
                intro e2
                exact hnd.1 (List.mem_map.2 ⟨x, e, by rw [hxk, e2]⟩)
          exact key _ hn hx
        rw [this]
    · rw [cc, if_neg hv, ih]
      congr 1
      funext y
      rw [metK_succ]
      have : (s.node n).isSome = false := by simpa using hv
      simp only [this, Bool.false_and, Bool.or_false]
theorem StIs.keysN {w : World} {b : Nat} {s : SS} (h : StIs w b s) : (s.cks.map (·.k)).Nodup := by
  have := h.2.1.keys
  rw [List.map_map] at this
  exact this
theorem chunks_cc {w : World} {b : Nat} {s : SS} (h : StIs w b s) : s.cks.length = (cc (fun p => (s.node p).isSome) s.log s.n).1 := by
  rw [cc_count h.keysN]
  symm
  rw [List.countP_eq_length]
  intro x hx
  rw [metK_iff]
  have hok := h.2.2.2.2.2
  have hlv := (hok.key x hx).2.1
  unfold liveOf at hlv
  rw [List.countP_pos_iff] at hlv
  obtain ⟨o, ho, hos⟩ := hlv
  obtain ⟨i, hi, rfl⟩ := List.mem_iff_getElem.1 ho
  obtain ⟨g, hg⟩ := Option.isSome_iff_exists.1 hos
  have hm : (x.k * 2 ^ s.log + i, g) ∈ s.ofKey x.k := by
    unfold SS.ofKey
    have : s.atKey x.k = some x := find_nodup Ck.k h.keysN hx
    rw [this]
    exact ckUp_mem.2 ⟨i, hi, rfl, by rw [List.getElem?_eq_getElem hi, hg]; rfl⟩
  obtain ⟨h1, h2⟩ := ofKey_mem hok hm
  exact ⟨_, hok.top _ (by rw [h2]; rfl), by rw [h2]; rfl, h1⟩
theorem cc_congr {lv lv' : Nat → Bool} {lg n : Nat} (h : ∀ q, q < n → lv q = lv' q) : cc lv lg n = cc lv' lg n := by
  induction n with
  | zero => rfl
  | succ n ih => rw [cc, cc, ih (fun q hq => h q (by omega)), h n (by omega)]
end Go.Proofs.Ytonppfebmeehcaa

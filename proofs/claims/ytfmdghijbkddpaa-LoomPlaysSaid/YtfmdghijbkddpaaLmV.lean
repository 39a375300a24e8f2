/- The loom as plain data: the jobs are put, and given, in order. -/
import Derived.Test.YtfmdghijbkddpaaLmT
namespace Go.Proofs.Ytfmdghijbkddpaa
set_option linter.unusedVariables false
set_option linter.unusedSimpArgs false

structure LS.shuts (s : LS) (t : Nat) : Prop where
  ch : s.ch = List.range' (s.next - s.ch.length) s.ch.length
  made : s.made = t
  phi : s.made + s.phi ≤ 1265

theorem shuts_init (a j r : Nat) (h2 : a ≤ 64) (h3 : j ≤ 400) : (LS.init0 a j r).looked.shuts 0 := by
  have hl : ((List.replicate a ((0, 0) : Nat × Nat)).filter fun x => decide (x.1 = 2)).length = 0 := by
    rw [List.length_eq_zero_iff, List.filter_eq_nil_iff]
    intro x hx
    simp at hx
    simp [hx.2]
  unfold LS.looked LS.init0
  split
  · refine ⟨by simp, rfl, ?_⟩
    simp only [LS.phi, phiN, LS.left, hl, List.length_replicate]
    simp
    split <;> omega
  · refine ⟨by simp, rfl, ?_⟩
    simp only [LS.phi, phiN, LS.left, hl, List.length_replicate]
    simp
    split <;> omega

theorem shuts_canc (s : LS) (t : Nat) (h : s.shuts t) : ({ s with canc := true } : LS).shuts t := ⟨h.ch, h.made, h.phi⟩
theorem inv_canc (s : LS) (h : s.inv) : ({ s with canc := true } : LS).inv := by
  obtain ⟨j1, j2, j3, j4, j5, j6, j7, j8, j9, j10, j11, j12⟩ := h
  exact ⟨j1, j2, j3, j4, j5, j6, j7, j8, j9, j10, j11, j12⟩

theorem ch_looked (s : LS) : s.looked.ch = s.ch ∧ s.looked.next = s.next ∧ s.looked.shut = s.shut := by
  unfold LS.looked
  split <;> exact ⟨rfl, rfl, rfl⟩

theorem shuts_make (s : LS) (t : Nat) (m : Mv) (hi : s.inv) (h : s.shuts t) (hc : s.Can m) : (s.make m).shuts (t + 1) := by
  obtain ⟨_, k2, k3, _⟩ := inv_make s m hi hc
  have hp := h.phi
  have hm := h.made
  refine ⟨?_, by omega, by omega⟩
  have hch := h.ch
  have hcl : s.ch.length ≤ s.next := by have := hi.cnt; omega
  cases hc with
  | put h1 h2 h3 =>
    show s.ch ++ [s.next] = List.range' (s.next + 1 - (s.ch ++ [s.next]).length) (s.ch ++ [s.next]).length
    rw [List.length_append, List.length_singleton, List.range'_1_concat, show s.next + 1 - (s.ch.length + 1) = s.next - s.ch.length from by omega, ← hch, show s.next - s.ch.length + s.ch.length = s.next from by omega]
  | give i hi' h1 h2 =>
    rcases make_give_eq s i hi h1 with ⟨g1, g2, g3, g4, e⟩ | ⟨g1, j, l, g2, g3, e⟩
    · rw [e]
      have hn : s.ch = [] := List.eq_nil_of_length_eq_zero (by have := hi.ch; omega)
      show s.ch = List.range' (s.next + 1 - s.ch.length) s.ch.length
      rw [hn]
      rfl
    · rw [e]
      show l = List.range' (s.next - l.length) l.length
      rw [g2, List.length_cons, List.range'_succ] at hch
      rw [g2, List.length_cons] at hcl
      have := (List.cons.inj hch).2
      rw [show s.next - (l.length + 1) + 1 = s.next - l.length from by omega] at this
      exact this
  | ans i hi' h1 h2 =>
    have e : s.make ⟨5, i, s.ws[i].2⟩ = ({ ({ s with made := s.made + 1 } : LS).setW i (0, 0) with ans := s.ans ++ [s.ws[i].2] } : LS).looked := by
      unfold LS.make
      simp
    rw [e, (ch_looked _).1, (ch_looked _).2.1]
    exact hch
  | quit i hi' h1 h2 =>
    have e : s.make ⟨6, i, 0⟩ = ({ s with made := s.made + 1 } : LS).setW i (2, 0) := by
      unfold LS.make LS.quit
      simp
    rw [e]
    exact hch
  | _ => exact hch

/-- The head of the channel is the job next to be given. -/
theorem shuts_given (s : LS) (t : Nat) (hi : s.inv) (h : s.shuts t) (hg : 0 ≤ s.given) : s.given = (s.next - s.ch.length : Nat) := by
  rcases given_can s hi hg with ⟨g1, g2, g3, g4⟩ | ⟨g1, j, l, g2, g3⟩
  · have hn : s.ch = [] := List.eq_nil_of_length_eq_zero (by have := hi.ch; omega)
    rw [g4, hn]
    rfl
  · have hch := h.ch
    rw [g2, List.length_cons, List.range'_succ] at hch
    rw [g3, g2, List.length_cons, ← (List.cons.inj hch).1]

/-- What the law keeps beside: whether the feeder has left, what was put, what was given, what the channel holds. -/
theorem make_tells (s : LS) (m : Mv) (hi : s.inv) (hc : s.Can m) :
    (m.kind = 1 → (s.make m).shut = s.shut ∧ (s.make m).next = s.next + 1 ∧ (s.make m).ch.length = s.ch.length + 1) ∧
    (m.kind = 2 → (s.make m).shut = s.shut ∧ (s.room = 0 → (s.make m).next = s.next + 1 ∧ (s.make m).ch.length = s.ch.length) ∧ (0 < s.room → (s.make m).next = s.next ∧ (s.make m).ch.length + 1 = s.ch.length)) ∧
    (m.kind = 3 → (s.make m).shut = true ∧ (s.make m).next = s.next ∧ (s.make m).ch.length = s.ch.length) ∧
    (m.kind = 4 ∨ m.kind = 5 ∨ (m.kind = 6 ∧ m.who ≠ -2) → (s.make m).shut = s.shut ∧ (s.make m).next = s.next ∧ (s.make m).ch.length = s.ch.length) ∧
    (m.kind = 6 ∧ m.who = -2 → (s.make m).shut = true ∧ (s.make m).next = s.next ∧ (s.make m).ch.length = s.ch.length) := by
  cases hc with
  | put h1 h2 h3 => simp [LS.make]
  | give i hi' h1 h2 =>
    rcases make_give_eq s i hi h1 with ⟨g1, g2, g3, g4, e⟩ | ⟨g1, j, l, g2, g3, e⟩
    · rw [e]
      simp [LS.setW]
      omega
    · rw [e]
      simp [LS.setW, g2]
      try omega
  | shut h1 h2 => simp [LS.make]
  | leave i hi' h1 h2 h3 => simp [LS.make, LS.setW]
  | ans i hi' h1 h2 =>
    have e : s.make ⟨5, i, s.ws[i].2⟩ = ({ ({ s with made := s.made + 1 } : LS).setW i (0, 0) with ans := s.ans ++ [s.ws[i].2] } : LS).looked := by
      unfold LS.make
      simp
    rw [e, (ch_looked _).1, (ch_looked _).2.1, (ch_looked _).2.2]
    simp [LS.setW]
  | feeder h1 h2 => simp [LS.make, LS.quit]
  | coll h1 h2 => simp [LS.make, LS.quit]
  | quit i hi' h1 h2 =>
    have e : s.make ⟨6, i, 0⟩ = ({ s with made := s.made + 1 } : LS).setW i (2, 0) := by
      unfold LS.make LS.quit
      simp
    rw [e]
    simp [LS.setW]
    try omega
end Go.Proofs.Ytfmdghijbkddpaa

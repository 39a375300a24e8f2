/- The loom as plain data: whoever can be handed a job is. -/
import Derived.Test.YtfmdghijbkddpaaLmQ
namespace Go.Proofs.Ytfmdghijbkddpaa
set_option linter.unusedVariables false
set_option linter.unusedSimpArgs false

theorem eachOf_has (kind : Int) (is : Nat × Nat → Bool) (job : Nat × Nat → Int) : ∀ (l : List (Nat × Nat)) (i0 i : Nat) (h : i < l.length), is l[i] = true → ∃ m ∈ eachOf kind is job l i0, m.kind = kind
  | [], i0, i, h, _ => by simp at h
  | x :: l, i0, 0, h, hx => by
    rw [eachOf, if_pos (show is x = true from hx)]
    exact ⟨_, List.mem_append_left _ (List.mem_singleton.2 rfl), rfl⟩
  | x :: l, i0, i + 1, h, hx => by
    obtain ⟨m, h1, h2⟩ := eachOf_has kind is job l (i0 + 1) i (by simpa using h) hx
    rw [eachOf]
    exact ⟨m, List.mem_append_right _ h1, h2⟩
theorem give_in (s : LS) (h : 0 ≤ s.given) (i : Nat) (hi : i < s.ws.length) (hx : isIdle s.ws[i] = true) : ∃ m ∈ s.moves, m.kind = 2 := by
  obtain ⟨m, h1, h2⟩ := eachOf_has 2 isIdle (fun _ => s.given) s.ws 0 i hi hx
  refine ⟨m, ?_, h2⟩
  unfold LS.moves LS.mGive
  rw [if_pos h]
  simp [h1]
theorem put_in (s : LS) (h : s.shut = false ∧ s.next < s.jobs ∧ s.ch.length < s.room) : ∃ m ∈ s.moves, m.kind = 1 := by
  refine ⟨⟨1, 0, s.next⟩, ?_, rfl⟩
  unfold LS.moves LS.mPut
  rw [if_pos h]
  simp

theorem make_give_eq (s : LS) (i : Nat) (h : s.inv) (hg : 0 ≤ s.given) :
    (s.room = 0 ∧ s.shut = false ∧ s.next < s.jobs ∧ s.given = s.next ∧ s.make ⟨2, i, s.given⟩ = { (({ s with made := s.made + 1, next := s.next + 1 } : LS).setW i (1, s.next)) with top := max s.top (({ s with made := s.made + 1, next := s.next + 1 } : LS).setW i (1, s.next)).gauge }) ∨
    (0 < s.room ∧ ∃ j l, s.ch = j :: l ∧ s.given = (j : Nat) ∧ s.make ⟨2, i, s.given⟩ = { (({ s with made := s.made + 1, ch := l } : LS).setW i (1, j)) with top := max s.top (({ s with made := s.made + 1, ch := l } : LS).setW i (1, j)).gauge }) := by
  rcases given_can s h hg with ⟨g1, g2, g3, g4⟩ | ⟨g1, j, l, g2, g3⟩
  · refine .inl ⟨g1, g2, g3, g4, ?_⟩
    unfold LS.make
    simp only [g1, g4]
    rfl
  · refine .inr ⟨g1, j, l, g2, g3, ?_⟩
    unfold LS.make
    have : ¬ s.room = 0 := by omega
    simp only [this, g3, g2]
    rfl

structure LS.tops (s : LS) (n : Nat) : Prop where
  shut : s.shut = false
  st : ∀ x ∈ s.ws, isIdle x = true ∨ isBusy x = true
  next : s.next = s.gauge + s.ch.length
  one : s.ch.length ≤ 1
  rounds : n ≤ s.gauge + s.next

theorem tops_init (a j r : Nat) : (LS.init0 a j r).tops 0 := by
  have hg : ((List.replicate a ((0, 0) : Nat × Nat)).filter isBusy).length = 0 := by
    rw [List.length_eq_zero_iff, List.filter_eq_nil_iff]
    intro x hx
    simp at hx
    simp [hx.2, isBusy]
  refine ⟨rfl, ?_, ?_, by simp [LS.init0], by omega⟩
  · intro x hx
    simp [LS.init0] at hx
    left
    simp [hx.2, isIdle]
  · show 0 = ((List.replicate a ((0, 0) : Nat × Nat)).filter isBusy).length + 0
    rw [hg]
theorem tops_looked (s : LS) (n : Nat) (h : s.tops n) : s.looked.tops n := by
  unfold LS.looked
  split
  · exact ⟨h.shut, h.st, h.next, h.one, h.rounds⟩
  · exact h

theorem tops_idle (s : LS) (n : Nat) (h : s.tops n) (hg : s.gauge < s.ws.length) : ∃ i, ∃ h : i < s.ws.length, isIdle s.ws[i] = true := by
  apply Classical.byContradiction
  intro hn
  have : s.ws.filter isBusy = s.ws := by
    rw [List.filter_eq_self]
    intro x hx
    rcases h.st x hx with e | e
    · obtain ⟨i, hi, rfl⟩ := List.mem_iff_getElem.1 hx
      exact absurd ⟨i, hi, e⟩ hn
    · exact e
  have h2 : s.gauge = (s.ws.filter isBusy).length := rfl
  rw [this] at h2
  omega

theorem tops_pick (s : LS) (n : Nat) (hi : s.inv) (h : s.tops n) (hg : s.gauge < s.ws.length) (hj : s.gauge < s.jobs) : (∃ m ∈ s.moves, m.kind = 2) ∨ (s.ch = [] ∧ ∃ m ∈ s.moves, m.kind = 1) := by
  obtain ⟨i, hi', hx⟩ := tops_idle s n h hg
  rcases given_eq s hi with ⟨h1, h2⟩ | ⟨h1, h2⟩
  · left
    have hc : s.ch = [] := List.eq_nil_of_length_eq_zero (by have := hi.ch; omega)
    have hn := h.next
    rw [hc, List.length_nil] at hn
    rw [if_pos ⟨h.shut, by omega⟩] at h2
    exact give_in s (by omega) i hi' hx
  · cases hc : s.ch with
    | nil =>
      right
      have hn := h.next
      rw [hc, List.length_nil] at hn
      exact ⟨rfl, put_in s ⟨h.shut, by omega, by rw [hc, List.length_nil]; exact h1⟩⟩
    | cons j l =>
      left
      rw [hc] at h2
      exact give_in s (by rw [h2]; exact Int.natCast_nonneg j) i hi' hx

theorem tops_make (s : LS) (n : Nat) (m : Mv) (hi : s.inv) (h : s.tops n) (hc : s.Can m) (hk : m.kind = 2 ∨ (s.ch = [] ∧ m.kind = 1)) : (s.make m).tops (n + 1) := by
  obtain ⟨t1, t2, t3, t4, t5⟩ := h
  cases hc with
  | put h1 h2 h3 =>
    rcases hk with hk | ⟨hk, _⟩
    · simp at hk
    · have e : s.make ⟨1, 0, s.next⟩ = { s with made := s.made + 1, ch := s.ch ++ [s.next], next := s.next + 1 } := rfl
      rw [e]
      rw [hk, List.length_nil] at t3
      refine ⟨t1, t2, ?_, by simp [hk], ?_⟩
      · show s.next + 1 = s.gauge + (s.ch ++ [s.next]).length
        rw [hk]
        simp
        exact t3
      · show n + 1 ≤ s.gauge + (s.next + 1)
        omega
  | give i hi' h1 h2 =>
    have hb := (idle_st h2).1
    rcases make_give_eq s i hi h1 with ⟨g1, g2, g3, g4, e⟩ | ⟨g1, j, l, g2, g3, e⟩
    · rw [e]
      have c1 := filter_set_len isBusy s.ws i hi' (1, s.next)
      rw [if_neg (by rw [hb]; simp), if_pos (by rfl)] at c1
      rw [gauge_def] at t3 t5
      refine ⟨t1, mem_set t2 (.inr rfl), ?_, t4, ?_⟩
      · show s.next + 1 = ((s.ws.set i (1, s.next)).filter isBusy).length + s.ch.length
        omega
      · show n + 1 ≤ ((s.ws.set i (1, s.next)).filter isBusy).length + (s.next + 1)
        omega
    · rw [e]
      have c1 := filter_set_len isBusy s.ws i hi' (1, j)
      rw [if_neg (by rw [hb]; simp), if_pos (by rfl)] at c1
      rw [gauge_def] at t3 t5
      rw [g2, List.length_cons] at t3 t4
      refine ⟨t1, mem_set t2 (.inr rfl), ?_, ?_, ?_⟩
      · show s.next = ((s.ws.set i (1, j)).filter isBusy).length + l.length
        omega
      · show l.length ≤ 1
        omega
      · show n + 1 ≤ ((s.ws.set i (1, j)).filter isBusy).length + s.next
        omega
  | _ => rcases hk with hk | ⟨_, hk⟩ <;> simp at hk
end Go.Proofs.Ytfmdghijbkddpaa

/- The loom as plain data: how a run ends: without a quit, with one. -/
import Derived.Test.YtfmdghijbkddpaaLmV
namespace Go.Proofs.Ytfmdghijbkddpaa
set_option linter.unusedVariables false
set_option linter.unusedSimpArgs false

/-- What holds as long as nobody quits. -/
def keenN (room jobs next c a g out made : Nat) (shut : Bool) (left : Nat) : Prop :=
  next = a + g + c ∧ (shut = true → next = jobs) ∧ (0 < left → shut = true ∧ c = 0) ∧ (out = 0 ∨ (out = 1 ∧ a = jobs)) ∧ made + c = (if room = 0 then 1 else 2) * next + (if shut = true then 1 else 0) + left + a
def LS.keen (s : LS) : Prop := keenN s.room s.jobs s.next s.ch.length s.ans.length s.gauge s.out s.made s.shut s.left

theorem keen_make (s : LS) (m : Mv) (hi : s.inv) (h : s.keen) (hc : s.Can m) (hm : m.kind ≠ 6) : (s.make m).keen := by
  obtain ⟨k1, k2, k3, k4, k5⟩ := h
  have hch := hi.ch
  cases hc with
  | put h1 h2 h3 =>
    show keenN s.room s.jobs (s.next + 1) (s.ch ++ [s.next]).length s.ans.length s.gauge s.out (s.made + 1) s.shut s.left
    rw [h1] at k3 k5 ⊢
    rw [if_neg (by omega : ¬ s.room = 0)] at k5
    refine ⟨by simp; omega, by simp, fun h => by have := (k3 h).1; simp at this, k4, ?_⟩
    rw [if_neg (by omega : ¬ s.room = 0), List.length_append, List.length_singleton]
    simp at k5 ⊢
    omega
  | give i hi' h1 h2 =>
    have hb := idle_st h2
    rcases make_give_eq s i hi h1 with ⟨g1, g2, g3, g4, e⟩ | ⟨g1, j, l, g2, g3, e⟩
    · rw [e]
      have c1 := filter_set_len isBusy s.ws i hi' (1, s.next)
      have c2 := filter_set_len (fun x => decide (x.1 = 2)) s.ws i hi' (1, s.next)
      rw [if_neg (by rw [hb.1]; simp), if_pos (by rfl)] at c1
      rw [if_neg (by rw [hb.2]; simp), if_neg (by simp)] at c2
      show keenN s.room s.jobs (s.next + 1) s.ch.length s.ans.length ((s.ws.set i (1, s.next)).filter isBusy).length s.out (s.made + 1) s.shut ((s.ws.set i (1, s.next)).filter fun x => decide (x.1 = 2)).length
      rw [gauge_def] at k1
      rw [left_def] at k3 k5
      rw [g2] at k3 k5 ⊢
      rw [if_pos g1] at k5
      refine ⟨by omega, by simp, fun h => ?_, k4, ?_⟩
      · exact k3 (by omega)
      · rw [if_pos g1]
        simp at k5 ⊢
        omega
    · rw [e]
      have c1 := filter_set_len isBusy s.ws i hi' (1, j)
      have c2 := filter_set_len (fun x => decide (x.1 = 2)) s.ws i hi' (1, j)
      rw [if_neg (by rw [hb.1]; simp), if_pos (by rfl)] at c1
      rw [if_neg (by rw [hb.2]; simp), if_neg (by simp)] at c2
      show keenN s.room s.jobs s.next l.length s.ans.length ((s.ws.set i (1, j)).filter isBusy).length s.out (s.made + 1) s.shut ((s.ws.set i (1, j)).filter fun x => decide (x.1 = 2)).length
      rw [gauge_def] at k1
      rw [left_def] at k3 k5
      rw [g2, List.length_cons] at k1 k3 k5
      refine ⟨by omega, k2, fun h => ?_, k4, ?_⟩
      · have := (k3 (by omega)).2
        omega
      · omega
  | shut h1 h2 =>
    show keenN s.room s.jobs s.next s.ch.length s.ans.length s.gauge s.out (s.made + 1) true s.left
    rw [h1] at k3 k5
    refine ⟨k1, fun _ => h2, fun h => by have := (k3 h).1; simp at this, k4, ?_⟩
    simp at k5 ⊢
    omega
  | leave i hi' h1 h2 h3 =>
    have hb := idle_st h3
    have e : s.make ⟨4, i, 0⟩ = ({ s with made := s.made + 1 } : LS).setW i (2, 0) := rfl
    rw [e]
    have c1 := filter_set_len isBusy s.ws i hi' (2, 0)
    have c2 := filter_set_len (fun x => decide (x.1 = 2)) s.ws i hi' (2, 0)
    rw [if_neg (by rw [hb.1]; simp), if_neg (by simp [isBusy])] at c1
    rw [if_neg (by rw [hb.2]; simp), if_pos (by simp)] at c2
    show keenN s.room s.jobs s.next s.ch.length s.ans.length ((s.ws.set i (2, 0)).filter isBusy).length s.out (s.made + 1) s.shut ((s.ws.set i (2, 0)).filter fun x => decide (x.1 = 2)).length
    rw [gauge_def] at k1
    rw [left_def] at k3 k5
    exact ⟨by omega, k2, fun _ => ⟨h1, by rw [h2]; rfl⟩, k4, by omega⟩
  | ans i hi' h1 h2 =>
    have hb := busy_st h2
    have hl := hi.late h1
    have e : s.make ⟨5, i, s.ws[i].2⟩ = ({ ({ s with made := s.made + 1 } : LS).setW i (0, 0) with ans := s.ans ++ [s.ws[i].2] } : LS).looked := by
      unfold LS.make
      simp
    rw [e]
    have c1 := filter_set_len isBusy s.ws i hi' (0, 0)
    have c2 := filter_set_len (fun x => decide (x.1 = 2)) s.ws i hi' (0, 0)
    rw [if_pos h2, if_neg (by simp [isBusy])] at c1
    rw [if_neg (by rw [hb]; simp), if_neg (by simp)] at c2
    rw [gauge_def] at k1
    rw [left_def] at k3 k5
    unfold LS.looked
    by_cases e2 : s.ans.length + 1 = s.jobs
    · rw [if_pos ⟨h1, by simp; exact e2⟩]
      show keenN s.room s.jobs s.next s.ch.length (s.ans ++ [s.ws[i].2]).length ((s.ws.set i (0, 0)).filter isBusy).length 1 (s.made + 1) s.shut ((s.ws.set i (0, 0)).filter fun x => decide (x.1 = 2)).length
      rw [List.length_append, List.length_singleton]
      exact ⟨by omega, k2, fun h => k3 (by omega), .inr ⟨rfl, e2⟩, by omega⟩
    · rw [if_neg (by rintro ⟨_, h⟩; simp at h; exact e2 h)]
      show keenN s.room s.jobs s.next s.ch.length (s.ans ++ [s.ws[i].2]).length ((s.ws.set i (0, 0)).filter isBusy).length s.out (s.made + 1) s.shut ((s.ws.set i (0, 0)).filter fun x => decide (x.1 = 2)).length
      rw [List.length_append, List.length_singleton]
      exact ⟨by omega, k2, fun h => k3 (by omega), .inl h1, by omega⟩
  | feeder h1 h2 => exact absurd rfl hm
  | coll h1 h2 => exact absurd rfl hm
  | quit i hi' h1 h2 => exact absurd rfl hm

/-- What holds whatever is done. -/
structure LS.ends (s : LS) : Prop where
  wz : ∀ x ∈ s.ws, x.1 = 0 → x.2 = 0
  once : ∀ x, s.ans.count x + (s.ws.filter fun y => decide (y = (1, x))).length + s.ch.count x ≤ (if x < s.next then 1 else 0)
  o1 : s.out = 1 → s.ans.length = s.jobs
  o2 : s.out = 2 → s.ans.length < s.jobs ∧ s.canc = true

theorem ends_make (s : LS) (m : Mv) (hi : s.inv) (h : s.ends) (hc : s.Can m) : (s.make m).ends := by
  obtain ⟨k1, k2, k3, k4⟩ := h
  cases hc with
  | put h1 h2 h3 =>
    refine ⟨k1, fun x => ?_, k3, k4⟩
    show s.ans.count x + (s.ws.filter fun y => decide (y = (1, x))).length + (s.ch ++ [s.next]).count x ≤ (if x < s.next + 1 then 1 else 0)
    have := k2 x
    rw [List.count_append, List.count_singleton]
    by_cases e : x = s.next
    · subst e
      rw [if_neg (by omega)] at this
      rw [if_pos (show s.next < s.next + 1 by omega), if_pos (by simp)]
      omega
    · rw [if_neg (show ¬ (s.next == x) = true by simp; omega)]
      by_cases e2 : x < s.next
      · rw [if_pos e2] at this
        rw [if_pos (show x < s.next + 1 by omega)]
        omega
      · rw [if_neg e2] at this
        rw [if_neg (show ¬ x < s.next + 1 by omega)]
        omega
  | give i hi' h1 h2 =>
    have hb : s.ws[i] = (0, 0) := by
      simp [isIdle] at h2
      exact Prod.ext h2.1 h2.2
    rcases make_give_eq s i hi h1 with ⟨g1, g2, g3, g4, e⟩ | ⟨g1, j, l, g2, g3, e⟩
    · rw [e]
      refine ⟨mem_set k1 (by simp), fun x => ?_, k3, k4⟩
      show s.ans.count x + ((s.ws.set i (1, s.next)).filter fun y => decide (y = (1, x))).length + s.ch.count x ≤ (if x < s.next + 1 then 1 else 0)
      have c1 := filter_set_len (fun y => decide (y = (1, x))) s.ws i hi' (1, s.next)
      rw [hb, if_neg (by simp)] at c1
      have := k2 x
      by_cases e : x = s.next
      · subst e
        rw [if_pos (by simp)] at c1
        rw [if_neg (by omega)] at this
        rw [if_pos (by omega)]
        omega
      · rw [if_neg (by simp; omega)] at c1
        by_cases e2 : x < s.next
        · rw [if_pos e2] at *
          rw [if_pos (by omega)]
          omega
        · rw [if_neg e2] at *
          omega
    · rw [e]
      refine ⟨mem_set k1 (by simp), fun x => ?_, k3, k4⟩
      show s.ans.count x + ((s.ws.set i (1, j)).filter fun y => decide (y = (1, x))).length + l.count x ≤ (if x < s.next then 1 else 0)
      have c1 := filter_set_len (fun y => decide (y = (1, x))) s.ws i hi' (1, j)
      rw [hb, if_neg (by simp)] at c1
      have := k2 x
      rw [g2, List.count_cons] at this
      by_cases e : j = x
      · subst e
        rw [if_pos (by simp)] at c1 
        simp at this
        omega
      · rw [if_neg (by simp; omega)] at c1
        have : (j == x) = false := by simp [e]
        simp [this] at *
        omega
  | shut h1 h2 => exact ⟨k1, k2, k3, k4⟩
  | leave i hi' h1 h2 h3 =>
    have e : s.make ⟨4, i, 0⟩ = ({ s with made := s.made + 1 } : LS).setW i (2, 0) := rfl
    rw [e]
    refine ⟨mem_set k1 (by simp), fun x => ?_, k3, k4⟩
    show s.ans.count x + ((s.ws.set i (2, 0)).filter fun y => decide (y = (1, x))).length + s.ch.count x ≤ (if x < s.next then 1 else 0)
    have c1 := filter_set_len (fun y => decide (y = (1, x))) s.ws i hi' (2, 0)
    have := k2 x
    rw [if_neg (by simp : ¬ decide (((2 : Nat), (0 : Nat)) = (1, x)) = true)] at c1
    omega
  | ans i hi' h1 h2 =>
    have e : s.make ⟨5, i, s.ws[i].2⟩ = ({ ({ s with made := s.made + 1 } : LS).setW i (0, 0) with ans := s.ans ++ [s.ws[i].2] } : LS).looked := by
      unfold LS.make
      simp
    have hb : s.ws[i] = (1, s.ws[i].2) := by
      simp [isBusy] at h2
      exact Prod.ext h2 rfl
    rw [e]
    have K2 : ∀ x, (s.ans ++ [s.ws[i].2]).count x + ((s.ws.set i (0, 0)).filter fun y => decide (y = (1, x))).length + s.ch.count x ≤ (if x < s.next then 1 else 0) := by
      intro x
      have c1 := filter_set_len (fun y => decide (y = (1, x))) s.ws i hi' (0, 0)
      rw [if_neg (by simp : ¬ decide (((0 : Nat), (0 : Nat)) = (1, x)) = true)] at c1
      have := k2 x
      rw [List.count_append, List.count_singleton]
      by_cases e : s.ws[i].2 = x
      · rw [if_pos (by rw [hb, e]; simp)] at c1
        rw [if_pos (by simp [e])]
        omega
      · rw [if_neg (by rw [hb]; simp [e])] at c1
        rw [if_neg (by simp [e])]
        omega
    unfold LS.looked
    by_cases e2 : s.ans.length + 1 = s.jobs
    · rw [if_pos ⟨h1, by simp; exact e2⟩]
      refine ⟨mem_set k1 (by simp), K2, fun _ => by simp [LS.setW]; exact e2, fun h => by simp at h⟩
    · rw [if_neg (by rintro ⟨_, h⟩; simp at h; exact e2 h)]
      refine ⟨mem_set k1 (by simp), K2, fun h => ?_, fun h => ?_⟩
      · have h : s.out = 1 := h
        omega
      · have h : s.out = 2 := h
        omega
  | feeder h1 h2 => exact ⟨k1, k2, k3, k4⟩
  | coll h1 h2 => exact ⟨k1, k2, fun h => by simp [LS.make, LS.quit] at h, fun _ => ⟨hi.late h2, h1⟩⟩
  | quit i hi' h1 h2 =>
    have e : s.make ⟨6, i, 0⟩ = ({ s with made := s.made + 1 } : LS).setW i (2, 0) := by
      unfold LS.make LS.quit
      simp
    rw [e]
    refine ⟨mem_set k1 (by simp), fun x => ?_, k3, k4⟩
    show s.ans.count x + ((s.ws.set i (2, 0)).filter fun y => decide (y = (1, x))).length + s.ch.count x ≤ (if x < s.next then 1 else 0)
    have c1 := filter_set_len (fun y => decide (y = (1, x))) s.ws i hi' (2, 0)
    have := k2 x
    rw [if_neg (by simp : ¬ decide (((2 : Nat), (0 : Nat)) = (1, x)) = true)] at c1
    omega

theorem init_lists (a : Nat) : ((List.replicate a ((0, 0) : Nat × Nat)).filter isBusy).length = 0 ∧ ((List.replicate a ((0, 0) : Nat × Nat)).filter fun x => decide (x.1 = 2)).length = 0 ∧ ∀ y, ((List.replicate a ((0, 0) : Nat × Nat)).filter fun x => decide (x = (1, y))).length = 0 := by
  refine ⟨?_, ?_, fun y => ?_⟩
  all_goals
    rw [List.length_eq_zero_iff, List.filter_eq_nil_iff]
    intro x hx
    simp at hx
    simp [hx.2, isBusy]
theorem keen_init (a j r : Nat) : (LS.init0 a j r).looked.keen ∧ (LS.init0 a j r).looked.ends := by
  obtain ⟨h1, h2, h3⟩ := init_lists a
  have hA : ∀ o, (o = 0 ∨ (o = 1 ∧ 0 = j)) → keenN r j 0 0 0 ((List.replicate a ((0, 0) : Nat × Nat)).filter isBusy).length o 0 false ((List.replicate a ((0, 0) : Nat × Nat)).filter fun x => decide (x.1 = 2)).length := by
    intro o ho
    rw [h1, h2]
    exact ⟨rfl, by simp, by simp, ho, by simp⟩
  unfold LS.looked
  split
  · next h =>
    refine ⟨hA 1 (.inr ⟨rfl, h.2⟩), ⟨?_, fun x => ?_, fun _ => h.2, fun h => by simp at h⟩⟩
    · intro x hx
      simp [LS.init0] at hx
      simp [hx.2]
    · have := h3 x
      simp only [LS.init0, List.count_nil]
      omega
  · next h =>
    refine ⟨hA 0 (.inl rfl), ⟨?_, fun x => ?_, fun h => by simp [LS.init0] at h, fun h => by simp [LS.init0] at h⟩⟩
    · intro x hx
      simp [LS.init0] at hx
      simp [hx.2]
    · have := h3 x
      simp only [LS.init0, List.count_nil]
      omega

theorem eachOf_nil {kind : Int} {is : Nat × Nat → Bool} {job : Nat × Nat → Int} {l : List (Nat × Nat)} {i : Nat} (h : eachOf kind is job l i = []) : ∀ x ∈ l, is x = false := by
  intro x hx
  obtain ⟨k, hk, rfl⟩ := List.mem_iff_getElem.1 hx
  cases hs : is l[k] with
  | false => rfl
  | true =>
    obtain ⟨m, hm, _⟩ := eachOf_has kind is job l i k hk hs
    rw [h] at hm
    simp at hm

/-- Has everybody left? -/
structure LS.over (s : LS) : Prop where
  shut : s.shut = true
  out : s.out ≠ 0
  all : ∀ x ∈ s.ws, x.1 = 2
theorem left_all {l : List (Nat × Nat)} : (l.filter fun x => decide (x.1 = 2)).length = l.length ↔ ∀ x ∈ l, x.1 = 2 := by
  rw [List.length_filter_eq_length_iff]
  simp
theorem gone_over (s : LS) : s.gone = s.ws.length + 2 ↔ s.over := by
  have hl : s.left ≤ s.ws.length := List.length_filter_le _ _
  constructor
  · intro h
    unfold LS.gone at h
    have h1 : s.shut = true := by
      cases hs : s.shut with
      | true => rfl
      | false => rw [hs] at h; simp at h; split at h <;> omega
    have h2 : s.out ≠ 0 := by
      intro ho
      rw [ho, h1] at h
      simp at h
      omega
    rw [h1, if_pos rfl, if_pos h2] at h
    exact ⟨h1, h2, left_all.1 (by rw [left_def] at h; omega)⟩
  · rintro ⟨h1, h2, h3⟩
    unfold LS.gone
    rw [h1, if_pos rfl, if_pos h2, left_def, left_all.2 h3]
theorem eachOf_none (kind : Int) (is : Nat × Nat → Bool) (job : Nat × Nat → Int) : ∀ (l : List (Nat × Nat)) (i : Nat), (∀ x ∈ l, is x = false) → eachOf kind is job l i = []
  | [], i, _ => rfl
  | x :: l, i, h => by
    rw [eachOf, h x (by simp), eachOf_none kind is job l (i + 1) (fun y hy => h y (by simp [hy]))]
    rfl
theorem over_moves (s : LS) (h : s.over) : s.moves = [] := by
  obtain ⟨h1, h2, h3⟩ := h
  have e1 : s.mPut = [] := by unfold LS.mPut; rw [if_neg (by rw [h1]; simp)]
  have i1 : ∀ x ∈ s.ws, isIdle x = false := fun x hx => by simp [isIdle, h3 x hx]
  have i2 : ∀ x ∈ s.ws, isBusy x = false := fun x hx => by simp [isBusy, h3 x hx]
  have i3 : ∀ x ∈ s.ws, notLeft x = false := fun x hx => by simp [notLeft, h3 x hx]
  have e2 : s.mGive = [] := by
    unfold LS.mGive
    split
    · exact eachOf_none _ _ _ _ _ i1
    · rfl
  have e3 : s.mShut = [] := by unfold LS.mShut; rw [if_neg (by rw [h1]; simp)]
  have e4 : s.mLeave = [] := by
    unfold LS.mLeave
    split
    · exact eachOf_none _ _ _ _ _ i1
    · rfl
  have e5 : s.mAns = [] := by unfold LS.mAns; rw [if_neg h2]
  have e6 : s.mQuit = [] := by
    unfold LS.mQuit
    split
    · rw [if_neg (by rw [h1]; simp), eachOf_none 6 _ (fun _ => 0) _ _ i3]
      simp [h2]
    · rfl
  unfold LS.moves
  rw [e1, e2, e3, e4, e5, e6]
  rfl
theorem moves_nil {s : LS} (h : s.moves = []) : s.mPut = [] ∧ s.mGive = [] ∧ s.mShut = [] ∧ s.mLeave = [] ∧ s.mAns = [] ∧ s.mQuit = [] := by
  unfold LS.moves at h
  simp only [List.append_eq_nil_iff] at h
  obtain ⟨⟨⟨⟨⟨h1, h2⟩, h3⟩, h4⟩, h5⟩, h6⟩ := h
  exact ⟨h1, h2, h3, h4, h5, h6⟩
theorem canc_over (s : LS) (hc : s.canc = true) (h : s.moves = []) : s.over := by
  have h6 := (moves_nil h).2.2.2.2.2
  unfold LS.mQuit at h6
  rw [if_pos hc] at h6
  simp only [List.append_eq_nil_iff] at h6
  obtain ⟨⟨h1, h2⟩, h3⟩ := h6
  refine ⟨?_, ?_, fun x hx => ?_⟩
  · cases hs : s.shut with
    | true => rfl
    | false => rw [hs] at h1; simp at h1
  · intro ho
    rw [if_pos ho] at h2
    simp at h2
  · have := eachOf_nil h3 x hx
    simpa [notLeft] using this

/-- As long as nobody quits, and the collector is there, there is a move that is no quit. -/
theorem keen_some (s : LS) (hi : s.inv) (hw0 : 0 < s.ws.length) (h : s.keen) (he : s.ends) (ho : s.out = 0) : s.mPut ++ s.mGive ++ s.mShut ++ s.mLeave ++ s.mAns ≠ [] := by
  intro hn
  simp only [List.append_eq_nil_iff] at hn
  obtain ⟨⟨⟨⟨h1, h2⟩, h3⟩, h4⟩, h5⟩ := hn
  obtain ⟨k1, k2, k3, k4, k5⟩ := h
  have hlate := hi.late ho
  unfold LS.mAns at h5
  rw [if_pos ho] at h5
  have hb := eachOf_nil h5
  have hg : s.gauge = 0 := by
    rw [gauge_def, List.length_eq_zero_iff, List.filter_eq_nil_iff]
    intro x hx
    rw [hb x hx]
    simp
  have hnx := hi.next
  by_cases hidle : ∃ x ∈ s.ws, isIdle x = true
  · obtain ⟨x, hx, hxi⟩ := hidle
    have hgv : ¬ 0 ≤ s.given := by
      intro hg
      unfold LS.mGive at h2
      rw [if_pos hg] at h2
      have := eachOf_nil h2 x hx
      rw [hxi] at this
      simp at this
    have hsh : s.shut = true := by
      cases hs : s.shut with
      | true => rfl
      | false =>
        exfalso
        unfold LS.mShut at h3
        by_cases e : s.next = s.jobs
        · rw [if_pos ⟨hs, e⟩] at h3
          simp at h3
        · rcases given_eq s hi with ⟨g1, g2⟩ | ⟨g1, g2⟩
          · rw [if_pos ⟨hs, by omega⟩] at g2
            omega
          · cases hcl : s.ch with
            | nil =>
              unfold LS.mPut at h1
              rw [if_pos ⟨hs, by omega, by rw [hcl]; simpa using g1⟩] at h1
              simp at h1
            | cons j l => rw [hcl] at g2; simp at g2; omega
    have hcn : s.ch = [] := by
      cases hcl : s.ch with
      | nil => rfl
      | cons j l =>
        exfalso
        rcases given_eq s hi with ⟨g1, g2⟩ | ⟨g1, g2⟩
        · have := hi.ch
          rw [hcl, List.length_cons] at this
          omega
        · rw [hcl] at g2
          simp at g2
          omega
    unfold LS.mLeave at h4
    rw [if_pos ⟨hsh, hcn⟩] at h4
    have := eachOf_nil h4 x hx
    rw [hxi] at this
    simp at this
  · have hw : 0 < s.left ∨ s.ws = [] := by
      cases hws : s.ws with
      | nil => exact .inr rfl
      | cons x l =>
        left
        have hx : x ∈ s.ws := by rw [hws]; simp
        have h1 := hb x hx
        have h2 : isIdle x = false := by
          cases hxi : isIdle x with
          | false => rfl
          | true => exact absurd ⟨x, hx, hxi⟩ hidle
        have h3 := (hi.st x hx).1
        have h4 := he.wz x hx
        simp [isBusy] at h1
        simp [isIdle] at h2
        have h5 : x.1 = 2 := by
          by_cases e : x.1 = 0
          · exact absurd (h4 e) (h2 e)
          · omega
        rw [left_def]
        apply List.length_pos_of_mem (a := x)
        rw [List.mem_filter]
        exact ⟨hx, by simp [h5]⟩
    rcases hw with hw | hw
    · obtain ⟨e1, e2⟩ := k3 hw
      have := k2 e1
      omega
    · rw [hw] at hw0
      simp at hw0
theorem keen_first (s : LS) (hi : s.inv) (hw0 : 0 < s.ws.length) (h : s.keen) (he : s.ends) (ho : s.out = 0) : ∃ h : 0 < s.moves.length, s.moves[0].kind ≠ 6 := by
  have hne := keen_some s hi hw0 h he ho
  have e : s.moves = (s.mPut ++ s.mGive ++ s.mShut ++ s.mLeave ++ s.mAns) ++ s.mQuit := rfl
  have hk : ∀ m ∈ s.mPut ++ s.mGive ++ s.mShut ++ s.mLeave ++ s.mAns, m.kind ≠ 6 := by
    intro m hm
    simp only [List.mem_append] at hm
    rcases hm with (((hm | hm) | hm) | hm) | hm
    · unfold LS.mPut at hm
      split at hm
      · simp at hm; subst hm; simp
      · simp at hm
    · unfold LS.mGive at hm
      split at hm
      · obtain ⟨j, hj, rfl, _⟩ := mem_eachOf _ _ _ _ _ _ hm; simp
      · simp at hm
    · unfold LS.mShut at hm
      split at hm
      · simp at hm; subst hm; simp
      · simp at hm
    · unfold LS.mLeave at hm
      split at hm
      · obtain ⟨j, hj, rfl, _⟩ := mem_eachOf _ _ _ _ _ _ hm; simp
      · simp at hm
    · unfold LS.mAns at hm
      rw [if_pos ho] at hm
      obtain ⟨j, hj, rfl, _⟩ := mem_eachOf _ _ _ _ _ _ hm
      simp
  generalize s.mPut ++ s.mGive ++ s.mShut ++ s.mLeave ++ s.mAns = A at *
  have hA : 0 < A.length := List.length_pos_iff.2 hne
  refine ⟨by rw [e, List.length_append]; omega, ?_⟩
  have e2 : s.moves[0]'(by rw [e, List.length_append]; omega) = A[0] := by
    rw [List.getElem_of_eq e, List.getElem_append_left hA]
  rw [e2]
  exact hk _ (List.getElem_mem hA)

/-- A run without a quit is as long as any, and whole. -/
theorem keen_over (s : LS) (hi : s.inv) (hw0 : 0 < s.ws.length) (h : s.keen) (he : s.ends) (hn : s.moves = []) : s.over ∧ s.out = 1 ∧ s.made = s.ws.length + 1 + (if s.room = 0 then 2 else 3) * s.jobs := by
  obtain ⟨h1, h2, h3, h4, h5, h6⟩ := moves_nil hn
  have ho : s.out ≠ 0 := by
    intro ho
    have := keen_some s hi hw0 h he ho
    rw [h1, h2, h3, h4, h5] at this
    exact this rfl
  obtain ⟨k1, k2, k3, k4, k5⟩ := h
  have k4 := k4.resolve_left ho
  have hnx := hi.next
  have hg : s.gauge = 0 := by omega
  have hc : s.ch.length = 0 := by omega
  have hnj : s.next = s.jobs := by omega
  have hcn := List.eq_nil_of_length_eq_zero hc
  have hs : s.shut = true := by
    cases hs : s.shut with
    | true => rfl
    | false =>
      unfold LS.mShut at h3
      rw [if_pos ⟨hs, hnj⟩] at h3
      simp at h3
  unfold LS.mLeave at h4
  rw [if_pos ⟨hs, hcn⟩] at h4
  have hall : ∀ x ∈ s.ws, x.1 = 2 := by
    intro x hx
    have q1 := eachOf_nil h4 x hx
    have q3 := (hi.st x hx).1
    have q4 := he.wz x hx
    have q5 : x.1 ≠ 1 := by
      intro hb
      rw [gauge_def, List.length_eq_zero_iff, List.filter_eq_nil_iff] at hg
      have := hg x hx
      simp [isBusy, hb] at this
    simp [isIdle] at q1
    by_cases e : x.1 = 0
    · exact absurd (q4 e) (q1 e)
    · omega
  refine ⟨⟨hs, ho, hall⟩, k4.1, ?_⟩
  have hl : s.left = s.ws.length := left_all.2 hall
  rw [hl, hs, hc, hnj, k4.2, if_pos rfl] at k5
  by_cases hr : s.room = 0
  · rw [if_pos hr] at k5 ⊢
    omega
  · rw [if_neg hr] at k5 ⊢
    omega
end Go.Proofs.Ytfmdghijbkddpaa

/- The loom as plain data: which moves there are; what holds all along. -/
import Derived.Test.YtfmdghijbkddpaaLmP
namespace Go.Proofs.Ytfmdghijbkddpaa
set_option linter.unusedVariables false
set_option linter.unusedSimpArgs false

theorem mem_eachOf (kind : Int) (is : Nat × Nat → Bool) (job : Nat × Nat → Int) (m : Mv) : ∀ (l : List (Nat × Nat)) (i : Nat), m ∈ eachOf kind is job l i → ∃ j, ∃ h : j < l.length, m = ⟨kind, (i + j : Nat), job l[j]⟩ ∧ is l[j] = true
  | [], i, h => by simp [eachOf] at h
  | x :: l, i, h => by
    rw [eachOf, List.mem_append] at h
    rcases h with h | h
    · by_cases hx : is x = true
      · rw [if_pos hx] at h
        simp at h
        exact ⟨0, by simp, by simpa using h, by simpa using hx⟩
      · rw [if_neg hx] at h
        simp at h
    · obtain ⟨j, hj, h1, h2⟩ := mem_eachOf kind is job m l (i + 1) h
      refine ⟨j + 1, by simpa using hj, ?_, by simpa using h2⟩
      rw [h1]
      simp
      omega

inductive LS.Can (s : LS) : Mv → Prop where
  | put : s.shut = false → s.next < s.jobs → s.ch.length < s.room → s.Can ⟨1, 0, s.next⟩
  | give (i : Nat) (h : i < s.ws.length) : 0 ≤ s.given → isIdle s.ws[i] = true → s.Can ⟨2, i, s.given⟩
  | shut : s.shut = false → s.next = s.jobs → s.Can ⟨3, 0, 0⟩
  | leave (i : Nat) (h : i < s.ws.length) : s.shut = true → s.ch = [] → isIdle s.ws[i] = true → s.Can ⟨4, i, 0⟩
  | ans (i : Nat) (h : i < s.ws.length) : s.out = 0 → isBusy s.ws[i] = true → s.Can ⟨5, i, s.ws[i].2⟩
  | feeder : s.canc = true → s.shut = false → s.Can ⟨6, -2, 0⟩
  | coll : s.canc = true → s.out = 0 → s.Can ⟨6, -1, 0⟩
  | quit (i : Nat) (h : i < s.ws.length) : s.canc = true → notLeft s.ws[i] = true → s.Can ⟨6, i, 0⟩

theorem can_of_mem (s : LS) (m : Mv) (h : m ∈ s.moves) : s.Can m := by
  unfold LS.moves at h
  simp only [List.mem_append] at h
  rcases h with ((((h | h) | h) | h) | h) | h
  · unfold LS.mPut at h
    split at h
    · next hc => simp at h; subst h; exact .put hc.1 hc.2.1 hc.2.2
    · simp at h
  · unfold LS.mGive at h
    split at h
    · next hc =>
      obtain ⟨j, hj, rfl, h2⟩ := mem_eachOf _ _ _ _ _ _ h
      rw [Nat.zero_add]
      exact .give j hj hc h2
    · simp at h
  · unfold LS.mShut at h
    split at h
    · next hc => simp at h; subst h; exact .shut hc.1 hc.2
    · simp at h
  · unfold LS.mLeave at h
    split at h
    · next hc =>
      obtain ⟨j, hj, rfl, h2⟩ := mem_eachOf _ _ _ _ _ _ h
      rw [Nat.zero_add]
      exact .leave j hj hc.1 hc.2 h2
    · simp at h
  · unfold LS.mAns at h
    split at h
    · next hc =>
      obtain ⟨j, hj, rfl, h2⟩ := mem_eachOf _ _ _ _ _ _ h
      rw [Nat.zero_add]
      exact .ans j hj hc h2
    · simp at h
  · unfold LS.mQuit at h
    split at h
    · next hc =>
      simp only [List.mem_append] at h
      rcases h with (h | h) | h
      · split at h
        · next h2 => simp at h; subst h; exact .feeder hc h2
        · simp at h
      · split at h
        · next h2 => simp at h; subst h; exact .coll hc h2
        · simp at h
      · obtain ⟨j, hj, rfl, h2⟩ := mem_eachOf _ _ _ _ _ _ h
        rw [Nat.zero_add]
        exact .quit j hj hc h2
    · simp at h

/-! Counting the workers. -/
theorem filter_set_len (p : Nat × Nat → Bool) : ∀ (l : List (Nat × Nat)) (i : Nat) (h : i < l.length) (x : Nat × Nat), ((l.set i x).filter p).length + (if p l[i] then 1 else 0) = (l.filter p).length + (if p x then 1 else 0)
  | [], i, h, x => by simp at h
  | y :: l, 0, h, x => by
    simp only [List.set_cons_zero, List.filter_cons, List.getElem_cons_zero]
    by_cases hx : p x = true <;> by_cases hy : p y = true <;> simp [hx, hy]
  | y :: l, i + 1, h, x => by
    have := filter_set_len p l i (by simpa using h) x
    simp only [List.set_cons_succ, List.filter_cons, List.getElem_cons_succ]
    cases p y <;> simp <;> omega
theorem filter_two (p q : Nat × Nat → Bool) (h : ∀ x, ¬ (p x = true ∧ q x = true)) : ∀ l : List (Nat × Nat), (l.filter p).length + (l.filter q).length ≤ l.length
  | [] => by simp
  | y :: l => by
    have := filter_two p q h l
    have hy := h y
    simp only [List.filter_cons, List.length_cons]
    revert hy
    cases p y <;> cases q y <;> simp <;> omega
theorem gauge_left (s : LS) : s.gauge + s.left ≤ s.ws.length := by
  refine filter_two _ _ ?_ s.ws
  rintro ⟨a, c⟩ ⟨h1, h2⟩
  simp [isBusy] at h1 h2
  omega

/-- How many moves there can be yet. -/
def phiN (room jobs next c a out : Nat) (shut : Bool) (wl left : Nat) : Nat := (if room = 0 then 1 else 2) * (jobs - next) + c + (if out = 0 then jobs - a else 0) + (if shut then 0 else 1) + (wl - left)
def LS.phi (s : LS) : Nat := phiN s.room s.jobs s.next s.ch.length s.ans.length s.out s.shut s.ws.length s.left

structure LS.inv (s : LS) : Prop where
  jobs : s.jobs ≤ 65536
  room : s.room ≤ 65536
  next : s.next ≤ s.jobs
  ws : s.ws.length ≤ 64
  st : ∀ x ∈ s.ws, x.1 ≤ 2 ∧ x.2 ≤ s.jobs
  ch : s.ch.length ≤ s.room
  chj : ∀ j ∈ s.ch, j < s.jobs
  cnt : s.ans.length + s.gauge + s.ch.length ≤ s.next
  ansj : ∀ j ∈ s.ans, j ≤ s.jobs
  out : s.out ≤ 2
  late : s.out = 0 → s.ans.length < s.jobs
  top : s.top ≤ s.ws.length ∧ s.top ≤ s.jobs ∧ s.gauge ≤ s.top

theorem given_eq (s : LS) (h : s.inv) : (s.room = 0 ∧ s.given = if s.shut = false ∧ s.next < s.jobs then (s.next : Int) else -1) ∨ (0 < s.room ∧ s.given = match s.ch with | j :: _ => (j : Int) | [] => -1) := by
  by_cases hr : s.room = 0
  · left
    refine ⟨hr, ?_⟩
    have hc : s.ch = [] := List.eq_nil_of_length_eq_zero (by have := h.ch; omega)
    unfold LS.given
    rw [hc]
    by_cases e : s.shut = false ∧ s.next < s.jobs
    · rw [if_pos ⟨hr, e⟩, if_pos e]
    · rw [if_neg (fun x => e x.2), if_neg e]
  · right
    refine ⟨by omega, ?_⟩
    unfold LS.given
    rw [if_neg (fun x => hr x.1)]
    cases s.ch <;> rfl
/-- A job given: the feeder's next, or the head of the channel. -/
theorem given_can (s : LS) (h : s.inv) (hg : 0 ≤ s.given) : (s.room = 0 ∧ s.shut = false ∧ s.next < s.jobs ∧ s.given = s.next) ∨ (0 < s.room ∧ ∃ j l, s.ch = j :: l ∧ s.given = j) := by
  rcases given_eq s h with ⟨h1, h2⟩ | ⟨h1, h2⟩
  · left
    by_cases e : s.shut = false ∧ s.next < s.jobs
    · rw [if_pos e] at h2
      exact ⟨h1, e.1, e.2, h2⟩
    · rw [if_neg e] at h2
      omega
  · right
    cases hc : s.ch with
    | nil => rw [hc] at h2; simp at h2; omega
    | cons j l => rw [hc] at h2; exact ⟨h1, j, l, rfl, h2⟩

theorem set_cnt (s : LS) (i : Nat) (h : i < s.ws.length) (x : Nat × Nat) : (s.setW i x).gauge + (if isBusy s.ws[i] then 1 else 0) = s.gauge + (if isBusy x then 1 else 0) := filter_set_len isBusy s.ws i h x
theorem set_left (s : LS) (i : Nat) (h : i < s.ws.length) (x : Nat × Nat) : (s.setW i x).left + (if decide (s.ws[i].1 = 2) then 1 else 0) = s.left + (if decide (x.1 = 2) then 1 else 0) := filter_set_len _ s.ws i h x
theorem idle_st {x : Nat × Nat} (h : isIdle x = true) : isBusy x = false ∧ decide (x.1 = 2) = false := by
  simp [isIdle] at h
  simp [isBusy, h.1]
theorem busy_st {x : Nat × Nat} (h : isBusy x = true) : decide (x.1 = 2) = false := by
  simp [isBusy] at h
  simp [h]
theorem notLeft_st {x : Nat × Nat} (h : notLeft x = true) : decide (x.1 = 2) = false := by
  simp [notLeft] at h
  simp [h]

theorem mem_set {l : List (Nat × Nat)} {i : Nat} {x : Nat × Nat} {P : Nat × Nat → Prop} (h : ∀ y ∈ l, P y) (hx : P x) : ∀ y ∈ l.set i x, P y := by
  intro y hy
  rcases List.mem_or_eq_of_mem_set hy with e | e
  · exact h y e
  · exact e ▸ hx


theorem not_both (x : Nat × Nat) : ¬ (isBusy x = true ∧ decide (x.1 = 2) = true) := by
  rintro ⟨h1, h2⟩
  simp [isBusy] at h1 h2
  omega
theorem gauge_def (s : LS) : s.gauge = (s.ws.filter isBusy).length := rfl
theorem left_def (s : LS) : s.left = (s.ws.filter fun x => decide (x.1 = 2)).length := rfl

theorem inv_make (s : LS) (m : Mv) (h : s.inv) (hc : s.Can m) : (s.make m).inv ∧ (s.make m).phi + 1 ≤ s.phi ∧ (s.make m).made = s.made + 1 ∧ (s.make m).jobs = s.jobs ∧ (s.make m).room = s.room ∧ (s.make m).ws.length = s.ws.length ∧ (s.make m).canc = s.canc := by
  have hgl := gauge_left s
  have hinv := h
  obtain ⟨j1, j2, j3, j4, j5, j6, j7, j8, j9, j10, j11, j12, j13, j14⟩ := h
  cases hc with
  | put h1 h2 h3 =>
    have e : s.make ⟨1, 0, s.next⟩ = { s with made := s.made + 1, ch := s.ch ++ [s.next], next := s.next + 1 } := rfl
    rw [e]
    refine ⟨⟨j1, j2, h2, j4, j5, by simp; omega, ?_, ?_, j9, j10, j11, j12, j13, j14⟩, ?_, rfl, rfl, rfl, rfl, rfl⟩
    · intro j hj
      simp at hj
      rcases hj with hj | rfl
      · exact j7 j hj
      · exact h2
    · rw [gauge_def] at *
      simp only [List.length_append, List.length_cons, List.length_nil]
      omega
    · show phiN s.room s.jobs (s.next + 1) ((s.ch ++ [s.next]).length) (s.ans.length) (s.out) (s.shut) (s.ws.length) (s.left) + 1 ≤ phiN s.room s.jobs s.next s.ch.length s.ans.length s.out s.shut s.ws.length s.left
      simp only [phiN, List.length_append, List.length_cons, List.length_nil]
      rw [if_neg (by omega)]
      omega
  | give i hi h1 h2 =>
    have hb := idle_st h2
    rcases given_can s hinv h1 with ⟨g1, g2, g3, g4⟩ | ⟨g1, j, l, g2, g3⟩
    · have e : s.make ⟨2, i, s.given⟩ = { (({ s with made := s.made + 1, next := s.next + 1 } : LS).setW i (1, s.next)) with top := max s.top (({ s with made := s.made + 1, next := s.next + 1 } : LS).setW i (1, s.next)).gauge } := by
        unfold LS.make
        simp only [g1, g4]
        rfl
      rw [e]
      have c1 := filter_set_len isBusy s.ws i hi (1, s.next)
      have c2 := filter_set_len (fun x => decide (x.1 = 2)) s.ws i hi (1, s.next)
      rw [if_neg (by rw [hb.1]; simp), if_pos (by rfl)] at c1
      rw [if_neg (by rw [hb.2]; simp), if_neg (by simp)] at c2
      rw [gauge_def] at j8 j14
      rw [gauge_def, left_def] at hgl
      refine ⟨⟨j1, j2, by simp only [LS.setW]; omega, by simp only [LS.setW, List.length_set]; exact j4, mem_set j5 ⟨by simp, by simp only [LS.setW]; omega⟩, by simp only [LS.setW]; omega, j7, ?_, j9, j10, j11, ?_, ?_, ?_⟩, ?_, rfl, rfl, rfl, List.length_set, rfl⟩
      · simp only [LS.setW, gauge_def]
        omega
      · simp only [LS.setW, gauge_def, List.length_set]
        have := filter_two isBusy (fun x => decide (x.1 = 2)) not_both (s.ws.set i (1, s.next))
        rw [List.length_set] at this
        omega
      · simp only [LS.setW, gauge_def]
        omega
      · simp only [LS.setW, gauge_def]
        omega
      · show phiN s.room s.jobs (s.next + 1) (s.ch.length) (s.ans.length) (s.out) (s.shut) ((s.ws.set i (1, s.next)).length) (((s.ws.set i (1, s.next)).filter fun x => decide (x.1 = 2)).length) + 1 ≤ phiN s.room s.jobs s.next s.ch.length s.ans.length s.out s.shut s.ws.length s.left
        simp only [phiN, left_def, List.length_set]
        rw [if_pos g1]
        omega
    · have e : s.make ⟨2, i, s.given⟩ = { (({ s with made := s.made + 1, ch := l } : LS).setW i (1, j)) with top := max s.top (({ s with made := s.made + 1, ch := l } : LS).setW i (1, j)).gauge } := by
        unfold LS.make
        have : ¬ s.room = 0 := by omega
        simp only [this, g3, g2]
        rfl
      rw [e]
      have c1 := filter_set_len isBusy s.ws i hi (1, j)
      have c2 := filter_set_len (fun x => decide (x.1 = 2)) s.ws i hi (1, j)
      have hjl := j7 j (by rw [g2]; simp)
      rw [g2] at j6 j8
      simp only [List.length_cons] at j6 j8
      have j7' : ∀ k ∈ l, k < s.jobs := fun k hk => j7 k (by rw [g2]; simp [hk])
      have j7 := j7'
      rw [if_neg (by rw [hb.1]; simp), if_pos (by rfl)] at c1
      rw [if_neg (by rw [hb.2]; simp), if_neg (by simp)] at c2
      rw [gauge_def] at j8 j14
      rw [gauge_def, left_def] at hgl
      refine ⟨⟨j1, j2, by simp only [LS.setW]; omega, by simp only [LS.setW, List.length_set]; exact j4, mem_set j5 ⟨by simp, by simp only [LS.setW]; omega⟩, by simp only [LS.setW]; omega, j7, ?_, j9, j10, j11, ?_, ?_, ?_⟩, ?_, rfl, rfl, rfl, List.length_set, rfl⟩
      · simp only [LS.setW, gauge_def]
        omega
      · simp only [LS.setW, gauge_def, List.length_set]
        have := filter_two isBusy (fun x => decide (x.1 = 2)) not_both (s.ws.set i (1, j))
        rw [List.length_set] at this
        omega
      · simp only [LS.setW, gauge_def]
        omega
      · simp only [LS.setW, gauge_def]
        omega
      · show phiN s.room s.jobs (s.next) (l.length) (s.ans.length) (s.out) (s.shut) ((s.ws.set i (1, j)).length) (((s.ws.set i (1, j)).filter fun x => decide (x.1 = 2)).length) + 1 ≤ phiN s.room s.jobs s.next s.ch.length s.ans.length s.out s.shut s.ws.length s.left
        simp only [phiN, left_def, List.length_set]
        rw [if_neg (by omega), g2, List.length_cons]
        omega
  | shut h1 h2 =>
    have e : s.make ⟨3, 0, 0⟩ = { s with made := s.made + 1, shut := true } := rfl
    rw [e]
    refine ⟨⟨j1, j2, j3, j4, j5, j6, j7, j8, j9, j10, j11, j12, j13, j14⟩, ?_, rfl, rfl, rfl, rfl, rfl⟩
    show phiN s.room s.jobs (s.next) (s.ch.length) (s.ans.length) (s.out) (true) (s.ws.length) (s.left) + 1 ≤ phiN s.room s.jobs s.next s.ch.length s.ans.length s.out s.shut s.ws.length s.left
    simp only [phiN, h1]
    simp
    omega
  | leave i hi h1 h2 h3 =>
    have hb := idle_st h3
    have e : s.make ⟨4, i, 0⟩ = ({ s with made := s.made + 1 } : LS).setW i (2, 0) := rfl
    rw [e]
    have c1 := filter_set_len isBusy s.ws i hi (2, 0)
    have c2 := filter_set_len (fun x => decide (x.1 = 2)) s.ws i hi (2, 0)
    rw [show (if isBusy (2, 0) = true then 1 else 0) = 0 from rfl] at c1
    rw [if_neg (by rw [hb.2]; simp), if_pos (by simp)] at c2
    rw [gauge_def] at j8 j14
    rw [gauge_def, left_def] at hgl
    have c3 := filter_two isBusy (fun x => decide (x.1 = 2)) not_both (s.ws.set i (2, 0))
    rw [List.length_set] at c3
    refine ⟨⟨j1, j2, j3, by simp only [LS.setW, List.length_set]; exact j4, mem_set j5 ⟨by simp, by simp⟩, j6, j7, ?_, j9, j10, j11, ?_, j13, ?_⟩, ?_, rfl, rfl, rfl, List.length_set, rfl⟩
    · simp only [LS.setW, gauge_def]
      omega
    · simp only [LS.setW, List.length_set]
      omega
    · simp only [LS.setW, gauge_def]
      omega
    · show phiN s.room s.jobs (s.next) (s.ch.length) (s.ans.length) (s.out) (s.shut) ((s.ws.set i (2, 0)).length) (((s.ws.set i (2, 0)).filter fun x => decide (x.1 = 2)).length) + 1 ≤ phiN s.room s.jobs s.next s.ch.length s.ans.length s.out s.shut s.ws.length s.left
      simp only [phiN, left_def, List.length_set]
      omega
  | ans i hi h1 h2 =>
    have hb := busy_st h2
    have hl := j11 h1
    have hj := j5 s.ws[i] (List.getElem_mem hi)
    have e : s.make ⟨5, i, s.ws[i].2⟩ = ({ ({ s with made := s.made + 1 } : LS).setW i (0, 0) with ans := s.ans ++ [s.ws[i].2] } : LS).looked := by
      unfold LS.make
      simp
    rw [e]
    have c1 := filter_set_len isBusy s.ws i hi (0, 0)
    have c2 := filter_set_len (fun x => decide (x.1 = 2)) s.ws i hi (0, 0)
    rw [if_pos h2, if_neg (by simp [isBusy])] at c1
    rw [if_neg (by rw [hb]; simp), if_neg (by simp)] at c2
    rw [gauge_def] at j8 j14
    rw [gauge_def, left_def] at hgl
    have c3 := filter_two isBusy (fun x => decide (x.1 = 2)) not_both (s.ws.set i (0, 0))
    rw [List.length_set] at c3
    have ha : ∀ k ∈ s.ans ++ [s.ws[i].2], k ≤ s.jobs := by
      intro k hk
      simp at hk
      rcases hk with hk | rfl
      · exact j9 k hk
      · exact hj.2
    unfold LS.looked
    by_cases e2 : s.ans.length + 1 = s.jobs
    · rw [if_pos ⟨h1, by simp; exact e2⟩]
      refine ⟨⟨j1, j2, j3, by simp only [LS.setW, List.length_set]; exact j4, mem_set j5 ⟨by simp, by simp⟩, j6, j7, ?_, ha, by simp, by simp, ?_, j13, ?_⟩, ?_, rfl, rfl, rfl, List.length_set, rfl⟩
      · simp only [LS.setW, gauge_def, List.length_append, List.length_cons, List.length_nil]
        omega
      · simp only [LS.setW, List.length_set]
        omega
      · simp only [LS.setW, gauge_def]
        omega
      · show phiN s.room s.jobs (s.next) (s.ch.length) ((s.ans ++ [s.ws[i].2]).length) (1) (s.shut) ((s.ws.set i (0, 0)).length) (((s.ws.set i (0, 0)).filter fun x => decide (x.1 = 2)).length) + 1 ≤ phiN s.room s.jobs s.next s.ch.length s.ans.length s.out s.shut s.ws.length s.left
        simp only [phiN, left_def, List.length_set, List.length_append, List.length_cons, List.length_nil, h1]
        simp
        omega
    · rw [if_neg (by rintro ⟨_, h⟩; simp at h; exact e2 h)]
      refine ⟨⟨j1, j2, j3, by simp only [LS.setW, List.length_set]; exact j4, mem_set j5 ⟨by simp, by simp⟩, j6, j7, ?_, ha, j10, by intro _; simp only [LS.setW, List.length_append, List.length_cons, List.length_nil]; omega, ?_, j13, ?_⟩, ?_, rfl, rfl, rfl, List.length_set, rfl⟩
      · simp only [LS.setW, gauge_def, List.length_append, List.length_cons, List.length_nil]
        omega
      · simp only [LS.setW, List.length_set]
        omega
      · simp only [LS.setW, gauge_def]
        omega
      · show phiN s.room s.jobs (s.next) (s.ch.length) ((s.ans ++ [s.ws[i].2]).length) (s.out) (s.shut) ((s.ws.set i (0, 0)).length) (((s.ws.set i (0, 0)).filter fun x => decide (x.1 = 2)).length) + 1 ≤ phiN s.room s.jobs s.next s.ch.length s.ans.length s.out s.shut s.ws.length s.left
        simp only [phiN, left_def, List.length_set, List.length_append, List.length_cons, List.length_nil, h1]
        simp
        omega
  | feeder h1 h2 =>
    have e : s.make ⟨6, -2, 0⟩ = { s with made := s.made + 1, shut := true } := rfl
    rw [e]
    refine ⟨⟨j1, j2, j3, j4, j5, j6, j7, j8, j9, j10, j11, j12, j13, j14⟩, ?_, rfl, rfl, rfl, rfl, rfl⟩
    show phiN s.room s.jobs (s.next) (s.ch.length) (s.ans.length) (s.out) (true) (s.ws.length) (s.left) + 1 ≤ phiN s.room s.jobs s.next s.ch.length s.ans.length s.out s.shut s.ws.length s.left
    simp only [phiN, h2]
    simp
    omega
  | coll h1 h2 =>
    have e : s.make ⟨6, -1, 0⟩ = { s with made := s.made + 1, out := 2 } := rfl
    have := j11 h2
    rw [e]
    refine ⟨⟨j1, j2, j3, j4, j5, j6, j7, j8, j9, by simp, by simp, j12, j13, j14⟩, ?_, rfl, rfl, rfl, rfl, rfl⟩
    show phiN s.room s.jobs (s.next) (s.ch.length) (s.ans.length) (2) (s.shut) (s.ws.length) (s.left) + 1 ≤ phiN s.room s.jobs s.next s.ch.length s.ans.length s.out s.shut s.ws.length s.left
    simp only [phiN, h2]
    simp
    omega
  | quit i hi h1 h2 =>
    have hb := notLeft_st h2
    have e : s.make ⟨6, i, 0⟩ = ({ s with made := s.made + 1 } : LS).setW i (2, 0) := by
      unfold LS.make LS.quit
      simp
    rw [e]
    have c1 := filter_set_len isBusy s.ws i hi (2, 0)
    have c2 := filter_set_len (fun x => decide (x.1 = 2)) s.ws i hi (2, 0)
    rw [show (if isBusy (2, 0) = true then 1 else 0) = 0 from rfl] at c1
    rw [if_neg (by rw [hb]; simp), if_pos (by simp)] at c2
    rw [gauge_def] at j8 j14
    rw [gauge_def, left_def] at hgl
    have c3 := filter_two isBusy (fun x => decide (x.1 = 2)) not_both (s.ws.set i (2, 0))
    rw [List.length_set] at c3
    refine ⟨⟨j1, j2, j3, by simp only [LS.setW, List.length_set]; exact j4, mem_set j5 ⟨by simp, by simp⟩, j6, j7, ?_, j9, j10, j11, ?_, j13, ?_⟩, ?_, rfl, rfl, rfl, List.length_set, rfl⟩
    · simp only [LS.setW, gauge_def]
      omega
    · simp only [LS.setW, List.length_set]
      omega
    · simp only [LS.setW, gauge_def]
      omega
    · show phiN s.room s.jobs (s.next) (s.ch.length) (s.ans.length) (s.out) (s.shut) ((s.ws.set i (2, 0)).length) (((s.ws.set i (2, 0)).filter fun x => decide (x.1 = 2)).length) + 1 ≤ phiN s.room s.jobs s.next s.ch.length s.ans.length s.out s.shut s.ws.length s.left
      simp only [phiN, left_def, List.length_set]
      omega
end Go.Proofs.Ytfmdghijbkddpaa

/- The laws' helpers: awake, sane. -/
import Derived.Test.YtfmdghijbkddpaaLmG
namespace Go.Proofs.Ytfmdghijbkddpaa
open Go.RowKit
set_option linter.unusedVariables false
set_option linter.unusedSimpArgs false

/-- A loom in memory, in a state that can be reached. -/
def LK (w : World) (b : Nat) (s : LS) (q : LV) : Prop := LmIs w b s q ∧ s.good

theorem init_good (a j r : Nat) (h1 : 1 ≤ a) (h2 : a ≤ 64) (h3 : j ≤ 65536) (h4 : r ≤ 65536) : (LS.init a j r).good := by
  have hg : ((List.replicate a ((0, 0) : Nat × Nat)).filter isBusy).length = 0 := by
    rw [List.length_eq_zero_iff, List.filter_eq_nil_iff]
    intro x hx
    simp at hx
    simp [hx.2, isBusy]
  have hl : ((List.replicate a ((0, 0) : Nat × Nat)).filter fun x => decide (x.1 = 2)).length = 0 := by
    rw [List.length_eq_zero_iff, List.filter_eq_nil_iff]
    intro x hx
    simp at hx
    simp [hx.2]
  unfold LS.init LS.looked
  by_cases e : j = 0
  · rw [if_pos ⟨rfl, by simp [e]⟩]
    refine ⟨⟨h3, h4, by simp, by simp only [List.length_replicate]; exact h2, by intro x hx; simp at hx; simp [hx.2], by simp, by simp, ?_, by simp, by simp, by simp, ?_⟩, ?_⟩
    · simp [LS.gauge, hg]
    · simp [LS.gauge, hg]
    · simp only [LS.phi, phiN, LS.left, hl, List.length_replicate]
      simp
      subst e
      split <;> omega
  · rw [if_neg (by rintro ⟨_, h⟩; simp at h; exact e h.symm)]
    refine ⟨⟨h3, h4, by simp, by simp only [List.length_replicate]; exact h2, by intro x hx; simp at hx; simp [hx.2], by simp, by simp, ?_, by simp, by simp, by simp; omega, ?_⟩, ?_⟩
    · simp [LS.gauge, hg]
    · simp [LS.gauge, hg]
    · simp only [LS.phi, phiN, LS.left, hl, List.length_replicate]
      simp
      split <;> omega

theorem mM : (LS.init 2 2 0).moves = [⟨2, 0, 0⟩, ⟨2, 1, 0⟩] := by decide
set_option maxRecDepth 100000 in
theorem awake_calls (w : World) : Calls Try.prog 16 #[] w fun e w' => e = .returned (.bool true) ∧ Chg [] w w' := by
  have g0 := init_good 2 2 0 (by omega) (by omega) (by omega) (by omega)
  have hm1 : 1 < (LS.init 2 2 0).moves.length := by rw [mM]; simp
  have hC := can_of_mem (LS.init 2 2 0) _ (List.getElem_mem hm1)
  have g1 := g0.make hC
  have e1 : (LS.init 2 2 0).moves[1] = ⟨2, 1, 0⟩ := rfl
  have e2 : (LS.make (LS.init 2 2 0) (LS.init 2 2 0).moves[1]).gauge = 1 := rfl
  have e3 : (LS.make (LS.init 2 2 0) (LS.init 2 2 0).moves[1]).made = 1 := rfl
  have e4 : ((LS.make (LS.init 2 2 0) (LS.init 2 2 0).moves[1]).moves.length : Int) ≤ 5 := by
    rw [show (LS.make (LS.init 2 2 0) (LS.init 2 2 0).moves[1]).moves.length = 2 from rfl]
    omega
  have x1 := mCells_at (LS.init 2 2 0).moves 1 hm1
  have hl : (LS.init 2 2 0).moves.length = 2 := by rw [mM]; rfl
  have hA := new_yes 2 2 0 w (by omega) (by omega) (by omega) (by omega)
  have hA2 := fun (w1 : World) (b : Nat) (q : LV) (h : LmIs w1 b (LS.init 2 2 0) q) => moves_calls w1 b _ q h
  have hA3 := fun (w1 : World) (b : Nat) (q : LV) (h : LmIs w1 b (LS.init 2 2 0) q) => move_ok w1 b _ q 1 h g0 hm1
  generalize hs1 : (LS.init 2 2 0).make (LS.init 2 2 0).moves[1] = s1 at *
  rw [e1] at x1
  generalize LS.init 2 2 0 = s0 at *
  have HL := Lib.hid hl
  have E1 := Lib.hid e1
  have E2 := Lib.hid e2
  have E3 := Lib.hid e3
  have E4 := Lib.hid e4
  have HS := Lib.hid hs1
  clear hl e1 e2 e3 e4 hs1 hC
  obtain ⟨x1, x2, x3⟩ := x1
  go_enter Try.func16, Try.ntmps16
  go_upto_region 4 with (go_at_call 11; refine hA.mono ?_; rintro e w1 ⟨b, q, rfl, h1, hc1, hf⟩)
  go_upto_region 5 with (go_at_call 13; refine (hA2 _ b q h1).mono ?_; rintro e w2 ⟨v, rfl, hr, hc2, _⟩)
  rw [HL.out] at hr
  obtain ⟨g, o, cap, rfl, _, _⟩ := hr.ptr (by omega)
  have y1 := hr.cell x1
  have y2 := hr.cell x2
  have y3 := hr.cell x3
  rw [← Nat.add_assoc] at y2 y3
  have hgl := World.block_lt_of_cell? _ _ y1
  have h2 := h1.chg0 hc2
  have hc12 := hc1.nil_trans hc2
  go_wp2_with fail
  go_at_call 14
  refine (hA3 w2 b q h2).mono ?_
  rintro e w3 ⟨rfl, q3, h3, hc3, _⟩
  have hc03 : Chg [] w w3 := hc12.trans hc3 (fun x hx => .inr (hf x hx))
  go_wp2_with fail
  go_at_call 12
  refine (gauge_calls w3 b s1 q3 h3).mono ?_
  rintro e w4 ⟨rfl, hc4⟩
  rw [E2.out]
  have h4 := h3.chg0 hc4
  go_wp2_with fail
  go_at_call 27
  refine (made_calls w4 b s1 q3 h4).mono ?_
  rintro e w5 ⟨rfl, rfl⟩
  rw [E3.out]
  go_wp2_with fail
  go_at_call 14
  refine (move_bad w5 b s1 q3 5 h4 (.inr E4.out)).mono ?_
  rintro e w6 ⟨rfl, hc6⟩
  go_wp2
  go_ret
  exact ⟨rfl, (hc03.nil_trans hc4).nil_trans hc6⟩

def saneB (a j r : Int) : Prop := 1 ≤ a ∧ a ≤ 64 ∧ 0 ≤ j ∧ j ≤ 400 ∧ 0 ≤ r ∧ r ≤ 65536
theorem sane_yes (a j r : Int) (w : World) (h : saneB a j r) : Calls Try.prog 10 #[.int .i64 a, .int .i64 j, .int .i64 r] w fun e w' => e = .returned (.bool true) ∧ w' = w := by
  obtain ⟨h1, h2, h3, h4, h5, h6⟩ := h
  go_enter Try.func10, Try.ntmps10
  go_wp2
  go_ret
  exact ⟨rfl, rfl⟩
theorem sane_no (a j r : Int) (w : World) (h : ¬ saneB a j r) : Calls Try.prog 10 #[.int .i64 a, .int .i64 j, .int .i64 r] w fun e w' => e = .returned (.bool false) ∧ w' = w := by
  have hP : (a < 1) ∨ (1 ≤ a ∧ 64 < a) ∨ (1 ≤ a ∧ a ≤ 64 ∧ j < 0) ∨ (1 ≤ a ∧ a ≤ 64 ∧ 0 ≤ j ∧ 400 < j) ∨ (1 ≤ a ∧ a ≤ 64 ∧ 0 ≤ j ∧ j ≤ 400 ∧ r < 0) ∨ (1 ≤ a ∧ a ≤ 64 ∧ 0 ≤ j ∧ j ≤ 400 ∧ 0 ≤ r ∧ 65536 < r) := by
    unfold saneB at h
    omega
  clear h
  rcases hP with h | ⟨h1, h2⟩ | ⟨h1, h2, h3⟩ | ⟨h1, h2, h3, h4⟩ | ⟨h1, h2, h3, h4, h5⟩ | ⟨h1, h2, h3, h4, h5, h6⟩
  all_goals
    go_enter Try.func10, Try.ntmps10
    go_wp2
    go_ret
    refine ⟨?_, rfl⟩
    first
      | rfl
      | (show Ending.returned (.bool (decide (r ≤ 65536))) = _
         rw [decide_eq_false (by omega)])
end Go.Proofs.Ytfmdghijbkddpaa

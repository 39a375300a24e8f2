/- LoomApart: the other inputs; the whole. -/
import Derived.Test.YtfmdghijbkddpaaLmRj
namespace Go.Proofs.Ytfmdghijbkddpaa
open Go.RowKit
set_option linter.unusedVariables false
set_option linter.unusedSimpArgs false

theorem apart_long (w : World) (a j r : Int) (v : Value) (ps : List Int) (hv : NsIs .i64 w v ps) (hl : 400 < ps.length) (u : Value) (ts : List Bool) (hu : BsIs w u ts) :
    Calls Try.prog 5 #[.int .i64 a, .int .i64 j, .int .i64 r, v, u] w (Res w [] (.bool true)) := by
  obtain ⟨hW, pa, pcap, rfl, hpr⟩ := hv
  have d1 : decide ((400 : Int) < ps.length) = true := by simp; omega
  go_enter Try.func5, Try.ntmps5
  go_wp2
  go_ret
  exact ⟨rfl, Chg.refl _ _⟩
theorem apart_jobs (w : World) (a j r : Int) (v : Value) (ps : List Int) (hv : NsIs .i64 w v ps) (hl : ps.length ≤ 400) (hj : 400 < j) (u : Value) (ts : List Bool) (hu : BsIs w u ts) :
    Calls Try.prog 5 #[.int .i64 a, .int .i64 j, .int .i64 r, v, u] w (Res w [] (.bool true)) := by
  obtain ⟨hW, pa, pcap, rfl, hpr⟩ := hv
  have d1 : decide ((400 : Int) < ps.length) = false := by simp; omega
  go_enter Try.func5, Try.ntmps5
  go_wp2
  go_ret
  exact ⟨rfl, Chg.refl _ _⟩
theorem apart_no (w : World) (a j r : Int) (v : Value) (ps : List Int) (hv : NsIs .i64 w v ps) (hl : ps.length ≤ 400) (hj : ¬ 400 < j) (h1 : ¬ mayP a j 1) (h2 : ¬ mayP a j r) (u : Value) (ts : List Bool) (hu : BsIs w u ts) :
    Calls Try.prog 5 #[.int .i64 a, .int .i64 j, .int .i64 r, v, u] w (Res w [] (.bool true)) := by
  obtain ⟨hW, pa, pcap, rfl, hpr⟩ := hv
  have d1 : decide ((400 : Int) < ps.length) = false := by simp; omega
  have d2 : decide ((400 : Int) < j) = false := by simp; omega
  go_enter Try.func5, Try.ntmps5
  go_upto_region 4 with (go_at_call 18; refine (two_no _ _ _ w h2).mono ?_; rintro e w1 ⟨rfl, hw1⟩; obtain rfl : w = w1 := hw1.symm)
  go_upto_region 5 with (go_at_call 18; refine (two_no _ _ _ w h1).mono ?_; rintro e w1 ⟨rfl, hw1⟩; obtain rfl : w = w1 := hw1.symm)
  go_wp2_with (go_at_call 16; refine (awake_calls w).mono ?_; rintro e w7 ⟨rfl, hc7⟩)
  go_ret
  exact ⟨rfl, hc7⟩
theorem apart_half (w : World) (a j : Nat) (r : Int) (v : Value) (ps : List Int) (hv : NsIs .i64 w v ps) (hl : ps.length ≤ 400) (k1 : 1 ≤ a) (k2 : a ≤ 64) (hj : j ≤ 400) (h2 : ¬ mayP a j r) (u : Value) (ts : List Bool) (hu : BsIs w u ts) :
    Calls Try.prog 5 #[.int .i64 a, .int .i64 j, .int .i64 r, v, u] w (Res w [] (.bool true)) := by
  obtain ⟨hW, pa, pcap, rfl, hpr⟩ := hv
  have htw2 : ∀ w, Calls Try.prog 18 #[.int .i64 a, .int .i64 j, .int .i64 1] w _ := fun w => two_yes a j 1 w k1 k2 (by omega) (by omega)
  have d1 : decide ((400 : Int) < ps.length) = false := by simp; omega
  have d2 : decide ((400 : Int) < (j : Int)) = false := by simp; omega
  have d3 : decide (400 < j) = false := by simp; omega
  go_enter Try.func5, Try.ntmps5
  go_upto_region 4 with (go_at_call 18; refine (two_no _ _ _ w h2).mono ?_; rintro e w1 ⟨rfl, hw1⟩; obtain rfl : w = w1 := hw1.symm)
  go_upto_region 5 with (go_at_call 18; refine (htw2 w).mono ?_; rintro e w2 ⟨bb, q2, br, rq2, rfl, l1, l2, l3, l4, l5, l6⟩)
  clear l1 l2 l4 l5 l6
  go_wp2_with (go_at_call 16; refine (awake_calls w2).mono ?_; rintro e w7 ⟨rfl, hc7⟩)
  go_ret
  exact ⟨rfl, l3.nil_trans hc7⟩
theorem apart_walk (w : World) (a : Int) (ha : -9223372036854775808 ≤ a ∧ a < 9223372036854775808) (j : Int) (hj : -9223372036854775808 ≤ j ∧ j < 9223372036854775808) (r : Int) (hr : -9223372036854775808 ≤ r ∧ r < 9223372036854775808) (v : Value) (ps : List Int) (hv : NsIs .i64 w v ps) (u : Value) (ts : List Bool) (hu : BsIs w u ts) :
    Calls Try.prog 5 #[.int .i64 a, .int .i64 j, .int .i64 r, v, u] w (Res w [] (.bool true)) := by
  by_cases hl : ps.length ≤ 400
  · by_cases hj4 : 400 < j
    · exact apart_jobs w a j r v ps hv hl hj4 u ts hu
    · by_cases h1 : mayP a j 1
      · by_cases h2 : mayP a j r
        · obtain ⟨k1, k2, k3, k4, k5, k6⟩ := h2
          obtain ⟨a, rfl⟩ : ∃ n : Nat, a = n := ⟨a.toNat, by omega⟩
          obtain ⟨j, rfl⟩ : ∃ n : Nat, j = n := ⟨j.toNat, by omega⟩
          obtain ⟨r, rfl⟩ : ∃ n : Nat, r = n := ⟨r.toNat, by omega⟩
          exact apart_main w a j r (by omega) (by omega) (by omega) (by omega) v ps hv hl u ts hu
        · obtain ⟨k1, k2, k3, k4, k5, k6⟩ := h1
          obtain ⟨a, rfl⟩ : ∃ n : Nat, a = n := ⟨a.toNat, by omega⟩
          obtain ⟨j, rfl⟩ : ∃ n : Nat, j = n := ⟨j.toNat, by omega⟩
          exact apart_half w a j r v ps hv hl (by omega) (by omega) (by omega) h2 u ts hu
      · refine apart_no w a j r v ps hv hl hj4 h1 ?_ u ts hu
        unfold mayP at *
        omega
  · exact apart_long w a j r v ps hv (by omega) u ts hu
end Go.Proofs.Ytfmdghijbkddpaa

/- LoomShuts: the refused inputs; the whole. -/
import Derived.Test.YtfmdghijbkddpaaLmW
namespace Go.Proofs.Ytfmdghijbkddpaa
open Go.RowKit
set_option linter.unusedVariables false
set_option linter.unusedSimpArgs false

theorem shuts_no (a j r : Int) (w : World) (v : Value) (ps : List Int) (hv : NsIs .i64 w v ps) (cn : Int) (h : ¬ saneB a j r) : Calls Try.prog 4 #[.int .i64 a, .int .i64 j, .int .i64 r, v, .int .i64 cn] w (Res w [] (.bool true)) := by
  obtain ⟨hW, pa, pcap, rfl, hpr⟩ := hv
  go_enter Try.func4, Try.ntmps4
  go_wp2_with (go_at_call 10; refine (sane_no _ _ _ w h).mono ?_; rintro e w1 ⟨rfl, hw1⟩; obtain rfl : w = w1 := hw1.symm)
  go_ret
  exact ⟨rfl, Chg.refl _ _⟩
theorem shuts_long (a j r : Int) (w : World) (v : Value) (ps : List Int) (hv : NsIs .i64 w v ps) (cn : Int) (h : saneB a j r) (hl : 400 < ps.length) : Calls Try.prog 4 #[.int .i64 a, .int .i64 j, .int .i64 r, v, .int .i64 cn] w (Res w [] (.bool true)) := by
  obtain ⟨hW, pa, pcap, rfl, hpr⟩ := hv
  have d1 : decide ((400 : Int) < ps.length) = true := by simp; omega
  go_enter Try.func4, Try.ntmps4
  go_wp2_with (go_at_call 10; refine (sane_yes _ _ _ w h).mono ?_; rintro e w1 ⟨rfl, hw1⟩; obtain rfl : w = w1 := hw1.symm)
  go_ret
  exact ⟨rfl, Chg.refl _ _⟩
theorem shuts_walk (w : World) (a : Int) (ha : -9223372036854775808 ≤ a ∧ a < 9223372036854775808) (j : Int) (hj : -9223372036854775808 ≤ j ∧ j < 9223372036854775808) (r : Int) (hr : -9223372036854775808 ≤ r ∧ r < 9223372036854775808) (v : Value) (ps : List Int) (hv : NsIs .i64 w v ps) (cn : Int) (hcn : -9223372036854775808 ≤ cn ∧ cn < 9223372036854775808) :
    Calls Try.prog 4 #[.int .i64 a, .int .i64 j, .int .i64 r, v, .int .i64 cn] w (Res w [] (.bool true)) := by
  by_cases h : saneB a j r
  · by_cases hl : ps.length ≤ 400
    · obtain ⟨h1, h2, h3, h4, h5, h6⟩ := h
      obtain ⟨a, rfl⟩ : ∃ n : Nat, a = n := ⟨a.toNat, by omega⟩
      obtain ⟨j, rfl⟩ : ∃ n : Nat, j = n := ⟨j.toNat, by omega⟩
      obtain ⟨r, rfl⟩ : ∃ n : Nat, r = n := ⟨r.toNat, by omega⟩
      exact shuts_main w a j r (by omega) (by omega) (by omega) (by omega) v ps hv hl cn
    · exact shuts_long a j r w v ps hv cn h (by omega)
  · exact shuts_no a j r w v ps hv cn h
end Go.Proofs.Ytfmdghijbkddpaa

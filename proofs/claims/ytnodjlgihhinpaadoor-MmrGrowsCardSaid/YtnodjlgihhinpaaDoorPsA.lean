/- Places: bits counted, nodes counted, walked. -/
import Derived.Test.YtnodjlgihhinpaaDoorPos
import Derived.Test.YtnodjlgihhinpaaDoorHaA
import Derived.Deep.DeepCutAuto
import Derived.IntWalk
namespace Go.Proofs.YtnodjlgihhinpaaDoor
open Go.RowKit
set_option linter.unusedVariables false
set_option linter.unusedSimpArgs false

theorem msk1 : msk 85 8 = 6148914691236517205 := by decide
theorem msk2 : msk 51 8 = 3689348814741910323 := by decide
theorem msk3 : msk 15 8 = 1085102592571150095 := by decide
theorem count_plain (x : Nat) (hx : x < 18446744073709551616) : ∃ s1 s2 s3 s4 s5 s6 : Nat, s1 = (x / 2 &&& 6148914691236517205) + (x &&& 6148914691236517205) ∧ s2 = (s1 / 4 &&& 3689348814741910323) + (s1 &&& 3689348814741910323) ∧
    s3 = ((s2 / 16 + s2) &&& 1085102592571150095) ∧ s4 = s3 + s3 / 256 ∧ s5 = s4 + s4 / 65536 ∧ s6 = s5 + s5 / 4294967296 ∧ s6 % 128 = popc x ∧ s6 < 9223372036854775808 ∧ s5 < 9223372036854775808 ∧ s4 < 9223372036854775808 ∧ s3 < 9223372036854775808 ∧ s2 < 9223372036854775808 ∧ s1 < 18446744073709551616 := by
  have h8 : x < 256 ^ 8 := by simpa using hx
  have hs := st_all 8 x h8
  rw [msk1, msk2, msk3] at hs
  obtain ⟨f1, f2, f3, f4, f5⟩ := ones_fin x _ _ _ h8 rfl rfl rfl
  have g1 : x / 2 &&& 6148914691236517205 ≤ 6148914691236517205 := Nat.and_le_right
  have g2 : x &&& 6148914691236517205 ≤ 6148914691236517205 := Nat.and_le_right
  refine ⟨_, _, _, _, _, _, rfl, rfl, rfl, rfl, rfl, rfl, ?_⟩
  have hs' : (((((x / 2 &&& 6148914691236517205) + (x &&& 6148914691236517205)) / 4 &&& 3689348814741910323) + (((x / 2 &&& 6148914691236517205) + (x &&& 6148914691236517205)) &&& 3689348814741910323)) / 16 +
    ((((x / 2 &&& 6148914691236517205) + (x &&& 6148914691236517205)) / 4 &&& 3689348814741910323) + (((x / 2 &&& 6148914691236517205) + (x &&& 6148914691236517205)) &&& 3689348814741910323))) &&& 1085102592571150095 = bytesum 8 x := hs
  rw [hs']
  have hb1 : (x / 2 &&& 6148914691236517205) + (x &&& 6148914691236517205) < 18446744073709551616 := by omega
  clear g1 g2
  generalize (x / 2 &&& 6148914691236517205) + (x &&& 6148914691236517205) = s1 at *
  have g3 : s1 / 4 &&& 3689348814741910323 ≤ 3689348814741910323 := Nat.and_le_right
  have g4 : s1 &&& 3689348814741910323 ≤ 3689348814741910323 := Nat.and_le_right
  exact ⟨f1, f2, f3, f4, by omega, by omega, hb1⟩
theorem i64_and127 (s : Nat) (h : s < 9223372036854775808) : bits BinOp.and IntKind.i64 (s : Int) 127 = ((s % 128 : Nat) : Int) := by
  show IntKind.i64.wrap ((BitVec.ofInt 64 (s : Int) &&& BitVec.ofInt 64 ((127 : Nat) : Int)).toNat : Int) = _
  rw [BitVec.toNat_and, ofInt_u64 s (by omega), ofInt_u64 127 (by omega)]
  have := Nat.and_two_pow_sub_one_eq_mod s 7
  rw [show (2 : Nat) ^ 7 - 1 = 127 from rfl, show (2 : Nat) ^ 7 = 128 from rfl] at this
  rw [this]
  exact IntWalk.i64_in _ (by omega)
set_option maxRecDepth 100000 in
theorem count_calls (x : Nat) (hx : x < 18446744073709551616) (w : World) : Calls Tryd.prog 42 #[.int .u64 x] w fun e w' => e = .returned (.int .i64 (popc x)) ∧ w' = w := by
  obtain ⟨s1, s2, s3, s4, s5, s6, h1, h2, h3, h4, h5, h6, hf, l6, l5, l4, l3, l2, l1⟩ := count_plain x hx
  have e1 : bits BinOp.and IntKind.u64 ((x : Int) / 2) 6148914691236517205 + bits BinOp.and IntKind.u64 (x : Int) 6148914691236517205 = (s1 : Nat) := by
    have q1 := u64_and_nat (x / 2) 6148914691236517205 (by omega) (by omega)
    have q2 := u64_and_nat x 6148914691236517205 (by omega) (by omega)
    rw [show ((x / 2 : Nat) : Int) = (x : Int) / 2 from by omega] at q1
    rw [show ((6148914691236517205 : Nat) : Int) = 6148914691236517205 from rfl] at q1 q2
    rw [q1, q2, h1]
    omega
  have e2 : bits BinOp.and IntKind.u64 ((s1 : Int) / 4) 3689348814741910323 + bits BinOp.and IntKind.u64 (s1 : Int) 3689348814741910323 = (s2 : Nat) := by
    have q1 := u64_and_nat (s1 / 4) 3689348814741910323 (by omega) (by omega)
    have q2 := u64_and_nat s1 3689348814741910323 (by omega) (by omega)
    rw [show ((s1 / 4 : Nat) : Int) = (s1 : Int) / 4 from by omega] at q1
    rw [show ((3689348814741910323 : Nat) : Int) = 3689348814741910323 from rfl] at q1 q2
    rw [q1, q2, h2]
    omega
  have e3 : bits BinOp.and IntKind.u64 ((s2 : Int) / 16 + (s2 : Int)) 1085102592571150095 = (s3 : Nat) := by
    have q1 := u64_and_nat (s2 / 16 + s2) 1085102592571150095 (by omega) (by omega)
    rw [show ((s2 / 16 + s2 : Nat) : Int) = (s2 : Int) / 16 + s2 from by omega] at q1
    rw [show ((1085102592571150095 : Nat) : Int) = 1085102592571150095 from rfl] at q1
    rw [q1, h3]
  have e4 : (s3 : Int) + (s3 : Int) / 256 = (s4 : Nat) := by omega
  have e5 : (s4 : Int) + (s4 : Int) / 65536 = (s5 : Nat) := by omega
  have e6 : (s5 : Int) + (s5 : Int) / 4294967296 = (s6 : Nat) := by omega
  have e7 : bits BinOp.and IntKind.i64 (s6 : Int) 127 = (popc x : Nat) := by rw [i64_and127 s6 l6, hf]
  clear h1 h2 h3 h4 h5 h6 hf
  go_enter Tryd.func42, Tryd.ntmps42
  go_wp2
  go_ret
  exact ⟨rfl, rfl⟩
theorem ones_calls (x : Nat) (hx : x < 18446744073709551616) (w : World) : Calls Tryd.prog 23 #[.int .u64 x] w fun e w' => e = .returned (.int .i64 (popc x)) ∧ w' = w := by
  have h := count_calls x hx w
  go_enter Tryd.func23, Tryd.ntmps23
  go_wp2_with (go_at_call 42; refine h.mono ?_; rintro e w1 ⟨rfl, hw1⟩; obtain rfl : w = w1 := hw1.symm)
  go_ret
  exact ⟨rfl, rfl⟩
theorem nodes_calls (x : Nat) (hx : x < 9223372036854775808) (w : World) : Calls Tryd.prog 105 #[.int .u64 x] w fun e w' => e = .returned (.int .u64 (nodesN x)) ∧ w' = w := by
  have h := ones_calls x (by omega) w
  have hp := popc_le_self x
  have e : 2 * (x : Int) - (popc x : Nat) = (nodesN x : Nat) := by unfold nodesN; omega
  have hn := nodes_ge x
  have hn2 := nodes_le x
  go_enter Tryd.func105, Tryd.ntmps105
  go_wp2_with (go_at_call 23; refine h.mono ?_; rintro e w1 ⟨rfl, hw1⟩; obtain rfl : w = w1 := hw1.symm)
  go_ret
  exact ⟨rfl, rfl⟩
theorem two_pos (n : Nat) : 1 ≤ 2 ^ n := Nat.two_pow_pos n
theorem pow_i (n : Nat) : ((2 ^ n : Nat) : Int) = (2 : Int) ^ n := by simp
/-- What is left behind the heights from h on, and what they gave. -/
def restGo : Nat → Nat → Nat
  | 0, p => p
  | h + 1, p => if 2 ^ (h + 1) - 1 ≤ p then restGo h (p - (2 ^ (h + 1) - 1)) else restGo h p
theorem last_lt (h : Nat) : ∀ p, lastGo h p < 2 ^ h := by
  induction h with
  | zero => intro p; simp [lastGo]
  | succ h ih =>
    intro p
    have h1 := ih (p - (2 ^ (h + 1) - 1))
    have h2 := ih p
    have e : 2 ^ (h + 1) = 2 * 2 ^ h := by rw [Nat.pow_succ]; omega
    rw [lastGo]
    split <;> omega
end Go.Proofs.YtnodjlgihhinpaaDoor

/- Places: bits counted, nodes counted, walked. -/
import Derived.Test.YtogkfjljdmbogaaDoorPos
import Derived.Test.YtogkfjljdmbogaaDoorHaA
import Derived.Deep.DeepCutAuto
import Derived.IntWalk
namespace Go.Proofs.YtogkfjljdmbogaaDoor
open Go.RowKit
set_option linter.unusedVariables false
set_option linter.unusedSimpArgs false

theorem msk1 : msk 85 8 = 6148914691236517205 := by decide
theorem msk2 : msk 51 8 = 3689348814741910323 := by decide
theorem msk3 : msk 15 8 = 1085102592571150095 := by decide
theorem count_plain (x : Nat) (hx : x < 18446744073709551616) : ∃ s1 s2 s3 s4 s5 s6 : Nat, s1 = (x / 2 &&& 6148914691236517205) + (x &&& 6148914691236517205) ∧ s2 = (s1 / 4 &&& 3689348814741910323) + (s1 &&& 3689348814741910323) ∧
    s3 = ((s2 / 16 + s2) &&& 1085102592571150095) ∧ s4 = s3 + s3 / 256 ∧ s5 = s4 + s4 / 65536 ∧ s6 = s5 + s5 / 4294967296 ∧ s6 % 128 = popc x ∧ s6 < 9223372036854775808 ∧ s5 < 9223372036854775808 ∧ s4 < 9223372036854775808 ∧ s3 < 9223372036854775808 ∧ s2 < 9223372036854775808 ∧ s1 < 18446744073709551616 := by
  have h8 : x < 256 ^ 8 := by simpa using hx
  have hs := st_all 8 x h8
  rw [msk1, msk2, msk3] at hs
  obtain ⟨f1, f2, f3, f4, f5⟩ := ones_fin x _ _ _ h8 rfl rfl rfl
  have g1 : x / 2 &&& 6148914691236517205 ≤ 6148914691236517205 := Nat.and_le_right
  have g2 : x &&& 6148914691236517205 ≤ 6148914691236517205 := Nat.and_le_right
  refine ⟨_, _, _, _, _, _, rfl, rfl, rfl, rfl, rfl, rfl, ?_⟩
  have hs' : (((((x / 2 &&& 6148914691236517205) + (x &&& 6148914691236517205)) / 4 &&& 3689348814741910323) + (((x / 2 &&& 6148914691236517205) + (x &&& 6148914691236517205)) &&& 3689348814741910323)) / 16 +
    ((((x / 2 &&& 6148914691236517205) + (x &&& 6148914691236517205)) / 4 &&& 3689348814741910323) + (((x / 2 &&& 6148914691236517205) + (x &&& 6148914691236517205)) &&& 3689348814741910323))) &&& 1085102592571150095 = bytesum 8 x := hs
  rw [hs']
  have hb1 : (x / 2 &&& 6148914691236517205) + (x &&& 6148914691236517205) < 18446744073709551616 := by omega
  clear g1 g2
  generalize (x / 2 &&& 6148914691236517205) + (x &&& 6148914691236517205) = s1 at *
  have g3 : s1 / 4 &&& 3689348814741910323 ≤ 3689348814741910323 := Nat.and_le_right
  have g4 : s1 &&& 3689348814741910323 ≤ 3689348814741910323 := Nat.and_le_right
  exact ⟨f1, f2, f3, f4, by omega, by omega, hb1⟩
theorem i64_and127 (s : Nat) (h : s < 9223372036854775808) : bits BinOp.and IntKind.i64 (s : Int) 127 = ((s % 128 : Nat) : Int) := by
  show IntKind.i64.wrap ((BitVec.ofInt 64 (s : Int) &&& BitVec.ofInt 64 ((127 : Nat) : Int)).toNat : Int) = _
  rw [BitVec.toNat_and, ofInt_u64 s (by omega), ofInt_u64 127 (by omega)]
  have := Nat.and_two_pow_sub_one_eq_mod s 7
  rw [show (2 : Nat) ^ 7 - 1 = 127 from rfl, show (2 : Nat) ^ 7 = 128 from rfl] at this
  rw [this]
  exact IntWalk.i64_in _ (by omega)
set_option maxRecDepth 100000 in
theorem count_calls (x : Nat) (hx : x < 18446744073709551616) (w : World) : Calls Tryd.prog 53 #[.int .u64 x] w fun e w' => e = .returned (.int .i64 (popc x)) ∧ w' = w := by
  obtain ⟨s1, s2, s3, s4, s5, s6, h1, h2, h3, h4, h5, h6, hf, l6, l5, l4, l3, l2, l1⟩ := count_plain x hx
  have e1 : bits BinOp.and IntKind.u64 ((x : Int) / 2) 6148914691236517205 + bits BinOp.and IntKind.u64 (x : Int) 6148914691236517205 = (s1 : Nat) := by
    have q1 := u64_and_nat (x / 2) 6148914691236517205 (by omega) (by omega)
    have q2 := u64_and_nat x 6148914691236517205 (by omega) (by omega)
    rw [show ((x / 2 : Nat) : Int) = (x : Int) / 2 from by omega] at q1
    rw [show ((6148914691236517205 : Nat) : Int) = 6148914691236517205 from rfl] at q1 q2
    rw [q1, q2, h1]
    omega
  have e2 : bits BinOp.and IntKind.u64 ((s1 : Int) / 4) 3689348814741910323 + bits BinOp.and IntKind.u64 (s1 : Int) 3689348814741910323 = (s2 : Nat) := by
    have q1 := u64_and_nat (s1 / 4) 3689348814741910323 (by omega) (by omega)
    have q2 := u64_and_nat s1 3689348814741910323 (by omega) (by omega)
    rw [show ((s1 / 4 : Nat) : Int) = (s1 : Int) / 4 from by omega] at q1
    rw [show ((3689348814741910323 : Nat) : Int) = 3689348814741910323 from rfl] at q1 q2
    rw [q1, q2, h2]
    omega
  have e3 : bits BinOp.and IntKind.u64 ((s2 : Int) / 16 + (s2 : Int)) 1085102592571150095 = (s3 : Nat) := by
    have q1 := u64_and_nat (s2 / 16 + s2) 1085102592571150095 (by omega) (by omega)
    rw [show ((s2 / 16 + s2 : Nat) : Int) = (s2 : Int) / 16 + s2 from by omega] at q1
    rw [show ((1085102592571150095 : Nat) : Int) = 1085102592571150095 from rfl] at q1
    rw [q1, h3]
  have e4 : (s3 : Int) + (s3 : Int) / 256 = (s4 : Nat) := by omega
  have e5 : (s4 : Int) + (s4 : Int) / 65536 = (s5 : Nat) := by omega
  have e6 : (s5 : Int) + (s5 : Int) / 4294967296 = (s6 : Nat) := by omega
  have e7 : bits BinOp.and IntKind.i64 (s6 : Int) 127 = (popc x : Nat) := by rw [i64_and127 s6 l6, hf]
  clear h1 h2 h3 h4 h5 h6 hf
  go_enter Tryd.func53, Tryd.ntmps53
  go_wp2
  go_ret
  exact ⟨rfl, rfl⟩
theorem ones_calls (x : Nat) (hx : x < 18446744073709551616) (w : World) : Calls Tryd.prog 35 #[.int .u64 x] w fun e w' => e = .returned (.int .i64 (popc x)) ∧ w' = w := by
  have h := count_calls x hx w
  go_enter Tryd.func35, Tryd.ntmps35
  go_wp2_with (go_at_call 53; refine h.mono ?_; rintro e w1 ⟨rfl, hw1⟩; obtain rfl : w = w1 := hw1.symm)
  go_ret
  exact ⟨rfl, rfl⟩
theorem nodes_calls (x : Nat) (hx : x < 9223372036854775808) (w : World) : Calls Tryd.prog 43 #[.int .u64 x] w fun e w' => e = .returned (.int .u64 (nodesN x)) ∧ w' = w := by
  have h := ones_calls x (by omega) w
  have hp := popc_le_self x
  have e : 2 * (x : Int) - (popc x : Nat) = (nodesN x : Nat) := by unfold nodesN; omega
  have hn := nodes_ge x
  have hn2 := nodes_le x
  go_enter Tryd.func43, Tryd.ntmps43
  go_wp2_with (go_at_call 35; refine h.mono ?_; rintro e w1 ⟨rfl, hw1⟩; obtain rfl : w = w1 := hw1.symm)
  go_ret
  exact ⟨rfl, rfl⟩
theorem Nodes_calls (x : Nat) (hx : x ≤ 4611686018427387904) (w : World) : Calls Tryd.prog 22 #[.int .u64 x] w fun e w' => e = .returned (.tuple #[.int .u64 (nodesN x), .bool true]) ∧ w' = w := by
  have h := nodes_calls x (by omega) w
  go_enter Tryd.func22, Tryd.ntmps22
  go_wp2_with (go_at_call 43; refine h.mono ?_; rintro e w1 ⟨rfl, hw1⟩; obtain rfl : w = w1 := hw1.symm)
  go_ret2
  exact ⟨rfl, rfl⟩
theorem Nodes_far (x : Nat) (hx : 4611686018427387904 < x) (h2 : x < 18446744073709551616) (w : World) : Calls Tryd.prog 22 #[.int .u64 x] w fun e w' => e = .returned (.tuple #[.int .u64 0, .bool false]) ∧ w' = w := by
  go_enter Tryd.func22, Tryd.ntmps22
  go_wp2
  go_ret2
  exact ⟨rfl, rfl⟩
theorem two_pos (n : Nat) : 1 ≤ 2 ^ n := Nat.two_pow_pos n
theorem pow_i (n : Nat) : ((2 ^ n : Nat) : Int) = (2 : Int) ^ n := by simp
/-- What is left behind the heights from h on, and what they gave. -/
def restGo : Nat → Nat → Nat
  | 0, p => p
  | h + 1, p => if 2 ^ (h + 1) - 1 ≤ p then restGo h (p - (2 ^ (h + 1) - 1)) else restGo h p
theorem last_lt (h : Nat) : ∀ p, lastGo h p < 2 ^ h := by
  induction h with
  | zero => intro p; simp [lastGo]
  | succ h ih =>
    intro p
    have h1 := ih (p - (2 ^ (h + 1) - 1))
    have h2 := ih p
    have e : 2 ^ (h + 1) = 2 * 2 ^ h := by rw [Nat.pow_succ]; omega
    rw [lastGo]
    split <;> omega
set_option maxRecDepth 100000 in
theorem last_calls (p : Nat) (hp : p < 18446744073709551616) (w : World) : Calls Tryd.prog 60 #[.int .u64 p] w fun e w' => e = .returned (.int .u64 (lastGo 63 p)) ∧ w' = w := by
  go_enter Tryd.func60, Tryd.ntmps60
  go_wp2
  go_loopg [0, 3, 4] 63 (fun g pp nn hh wx => ∃ h p' n : Nat, h ≤ 63 ∧ g = h ∧ hh = .int .i64 ((h : Int) - 1) ∧ pp = .int .u64 (p' : Nat) ∧ nn = .int .u64 (n : Nat) ∧ p' ≤ p ∧ n + lastGo h p' = lastGo 63 p ∧ wx = w)
  case atStart => exact ⟨63, p, 0, by omega, rfl, rfl, rfl, rfl, Nat.le_refl _, by omega, rfl⟩
  case round =>
    obtain ⟨h, p', n, hh, hg, rfl, rfl, rfl, hpp, hsum, hw⟩ := hrel
    obtain rfl : wr = w := hw
    cases h with
    | zero =>
      rw [lastGo, Nat.add_zero] at hsum
      have HS := Lib.hid hsum
      have hb := last_lt 63 p
      rw [← hsum] at hb
      clear hsum hg
      have n1 : ¬ ((((0 : Nat) : Int) - 1) ≥ 0) := by omega
      have n2 : decide ((((0 : Nat) : Int) - 1) ≥ 0) = false := decide_eq_false n1
      go_wp2
      go_ret
      exact ⟨by rw [HS.out]; rfl, rfl⟩
    | succ h =>
      rw [show (((h + 1 : Nat) : Int) - 1) = (h : Int) from by omega]
      have hm := mask_calls (h + 1) (by omega) (by omega) wr
      rw [show ((h + 1 : Nat) : Int) = (h : Int) + 1 from by omega] at hm
      have h62 : h ≤ 62 := by omega
      have hlt := last_lt 63 p
      have hpw := Nat.pow_le_pow_right (show 0 < 2 from by omega) h62
      have hp1 := Nat.two_pow_pos h
      have E : IntKind.u64.wrap ((2 : Int) ^ h) = ((2 ^ h : Nat) : Int) := by
        rw [IntKind.wrap_u64, ← pow_i]
        omega
      rw [lastGo] at hsum
      by_cases hc : 2 ^ (h + 1) - 1 ≤ p'
      · rw [if_pos hc] at hsum
        have hn2 : n + 2 ^ h < 9223372036854775808 := by omega
        have HS := Lib.hid hsum
        clear hsum
        generalize 2 ^ (h + 1) - 1 = mk at *
        generalize 2 ^ h = ph at *
        have hc2 : (mk : Int) ≤ (p' : Int) := by omega
        go_wp2_with (go_at_call 42; refine hm.mono ?_; rintro e w1 ⟨rfl, hw1⟩; obtain rfl : wr = w1 := hw1.symm)
        go_roundg h
        case measure => omega
        case rel => exact ⟨h, p' - mk, n + ph, by omega, rfl, rfl, by rw [show ((p' - mk : Nat) : Int) = (p' : Int) - mk from by omega], by rw [show ((n + ph : Nat) : Int) = (n : Int) + ph from by omega], by omega, by have := HS.out; omega, rfl⟩
      · rw [if_neg hc] at hsum
        have HS := Lib.hid hsum
        clear hsum E
        generalize 2 ^ (h + 1) - 1 = mk at *
        have hc2 : ¬ ((mk : Int) ≤ (p' : Int)) := by omega
        go_wp2_with (go_at_call 42; refine hm.mono ?_; rintro e w1 ⟨rfl, hw1⟩; obtain rfl : wr = w1 := hw1.symm)
        go_roundg h
        case measure => omega
        case rel => exact ⟨h, p', n, by omega, rfl, rfl, rfl, rfl, hpp, HS.out, rfl⟩
end Go.Proofs.YtogkfjljdmbogaaDoor

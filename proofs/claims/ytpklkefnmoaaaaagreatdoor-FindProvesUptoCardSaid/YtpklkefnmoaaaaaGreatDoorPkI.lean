/- Texts put into one by pack.py: RfA R3A RfP RfB. -/
import Derived.BigQuiet
import Derived.Deep.LoopGhost
import Derived.Deep.RegionHeld3
import Derived.Test.YtpklkefnmoaaaaaGreatDoorHaEp
import Derived.Test.YtpklkefnmoaaaaaGreatDoorPkH
import Derived.Test.YtpklkefnmoaaaaaGreatDoorPkD
import Derived.Test.YtpklkefnmoaaaaaGreatDoorPkC
/- The document's hash: powers, turning, bits one by one. -/
namespace Go.Proofs.YtpklkefnmoaaaaaGreatDoor
open Go.RowKit
set_option linter.unusedVariables false
set_option linter.unusedSimpArgs false

theorem r2power_calls (n : Nat) (hn : n ≤ 62) (w : World) : Calls Tryz.prog 303 #[.int .i64 n] w fun e w' => e = .returned (.int .u64 (2 ^ n : Nat)) ∧ w' = w := by
  go_enter Tryz.func303, Tryz.ntmps303
  go_wp2
  go_loopg [3, 4] n (fun g pp ii wx => ∃ i : Nat, i ≤ n ∧ g = n - i ∧ pp = .int .u64 (2 ^ i : Nat) ∧ ii = .int .i64 i ∧ wx = w)
  case atStart => exact ⟨0, by omega, by omega, rfl, rfl, rfl⟩
  case round =>
    obtain ⟨i, hi, hg, rfl, rfl, hw⟩ := hrel
    obtain rfl : w = wr := hw.symm
    by_cases hlt : i < n
    · have hlt' := hlt
      have hp := Nat.pow_le_pow_right (show 0 < 2 from by omega) (show i ≤ 61 from by omega)
      have hs : 2 ^ (i + 1) = 2 * 2 ^ i := by rw [Nat.pow_succ]; omega
      have HS := Lib.hid hs
      have HG := Lib.hid hg
      clear hs hg
      generalize 2 ^ i = P at *
      have hp2 : P ≤ 2305843009213693952 := hp
      go_wp2
      go_roundg (n - (i + 1))
      case measure => rw [HG.out]; omega
      case rel => exact ⟨i + 1, by omega, rfl, by rw [HS.out]; go_num, by go_num, rfl⟩
    · obtain rfl : i = n := by omega
      clear hg
      go_wp2
      go_ret
      exact ⟨rfl, rfl⟩
set_option maxRecDepth 100000 in
set_option maxHeartbeats 4000000 in
theorem r2rotr_calls (x n : Nat) (hx : x < 4294967296) (hn : n ∈ [2, 6, 7, 11, 13, 17, 18, 19, 22, 25]) (w : World) : Calls Tryz.prog 292 #[.int .u64 x, .int .i64 n] w fun e w' => e = .returned (.int .u64 (rotrN x n)) ∧ ∃ q, w' = w.drewN q := by
  simp only [List.mem_cons, List.not_mem_nil, or_false] at hn
  rcases hn with rfl | rfl | rfl | rfl | rfl | rfl | rfl | rfl | rfl | rfl
  · have h1 : ∀ W, Calls Tryz.prog 303 #[.int .i64 2] W fun e w' => e = .returned (.int .u64 4) ∧ w' = W := fun W => r2power_calls 2 (by omega) W
    have h2 : ∀ W, Calls Tryz.prog 303 #[.int .i64 30] W fun e w' => e = .returned (.int .u64 1073741824) ∧ w' = W := fun W => r2power_calls 30 (by omega) W
    have e : ((rotrN x 2 : Nat) : Int) = (x : Int) / 4 + (x : Int) % 4 * 1073741824 := by unfold rotrN; omega
    have E := Lib.hid e
    clear e
    go_enter Tryz.func292, Tryz.ntmps292
    go_upto_region 1 with (fail)
    go_quiet ((first | (go_at_call 303; with_reducible exact Calls.quiet_of_same (h1 _)) | (go_at_call 303; with_reducible exact Calls.quiet_of_same (h2 _))))
    go_wp2
    go_ret
    exact ⟨by rw [E.out]; rfl, _, rfl⟩
  · have h1 : ∀ W, Calls Tryz.prog 303 #[.int .i64 6] W fun e w' => e = .returned (.int .u64 64) ∧ w' = W := fun W => r2power_calls 6 (by omega) W
    have h2 : ∀ W, Calls Tryz.prog 303 #[.int .i64 26] W fun e w' => e = .returned (.int .u64 67108864) ∧ w' = W := fun W => r2power_calls 26 (by omega) W
    have e : ((rotrN x 6 : Nat) : Int) = (x : Int) / 64 + (x : Int) % 64 * 67108864 := by unfold rotrN; omega
    have E := Lib.hid e
    clear e
    go_enter Tryz.func292, Tryz.ntmps292
    go_upto_region 1 with (fail)
    go_quiet ((first | (go_at_call 303; with_reducible exact Calls.quiet_of_same (h1 _)) | (go_at_call 303; with_reducible exact Calls.quiet_of_same (h2 _))))
    go_wp2
    go_ret
    exact ⟨by rw [E.out]; rfl, _, rfl⟩
  · have h1 : ∀ W, Calls Tryz.prog 303 #[.int .i64 7] W fun e w' => e = .returned (.int .u64 128) ∧ w' = W := fun W => r2power_calls 7 (by omega) W
    have h2 : ∀ W, Calls Tryz.prog 303 #[.int .i64 25] W fun e w' => e = .returned (.int .u64 33554432) ∧ w' = W := fun W => r2power_calls 25 (by omega) W
    have e : ((rotrN x 7 : Nat) : Int) = (x : Int) / 128 + (x : Int) % 128 * 33554432 := by unfold rotrN; omega
    have E := Lib.hid e
    clear e
    go_enter Tryz.func292, Tryz.ntmps292
    go_upto_region 1 with (fail)
    go_quiet ((first | (go_at_call 303; with_reducible exact Calls.quiet_of_same (h1 _)) | (go_at_call 303; with_reducible exact Calls.quiet_of_same (h2 _))))
    go_wp2
    go_ret
    exact ⟨by rw [E.out]; rfl, _, rfl⟩
  · have h1 : ∀ W, Calls Tryz.prog 303 #[.int .i64 11] W fun e w' => e = .returned (.int .u64 2048) ∧ w' = W := fun W => r2power_calls 11 (by omega) W
    have h2 : ∀ W, Calls Tryz.prog 303 #[.int .i64 21] W fun e w' => e = .returned (.int .u64 2097152) ∧ w' = W := fun W => r2power_calls 21 (by omega) W
    have e : ((rotrN x 11 : Nat) : Int) = (x : Int) / 2048 + (x : Int) % 2048 * 2097152 := by unfold rotrN; omega
    have E := Lib.hid e
    clear e
    go_enter Tryz.func292, Tryz.ntmps292
    go_upto_region 1 with (fail)
    go_quiet ((first | (go_at_call 303; with_reducible exact Calls.quiet_of_same (h1 _)) | (go_at_call 303; with_reducible exact Calls.quiet_of_same (h2 _))))
    go_wp2
    go_ret
    exact ⟨by rw [E.out]; rfl, _, rfl⟩
  · have h1 : ∀ W, Calls Tryz.prog 303 #[.int .i64 13] W fun e w' => e = .returned (.int .u64 8192) ∧ w' = W := fun W => r2power_calls 13 (by omega) W
    have h2 : ∀ W, Calls Tryz.prog 303 #[.int .i64 19] W fun e w' => e = .returned (.int .u64 524288) ∧ w' = W := fun W => r2power_calls 19 (by omega) W
    have e : ((rotrN x 13 : Nat) : Int) = (x : Int) / 8192 + (x : Int) % 8192 * 524288 := by unfold rotrN; omega
    have E := Lib.hid e
    clear e
    go_enter Tryz.func292, Tryz.ntmps292
    go_upto_region 1 with (fail)
    go_quiet ((first | (go_at_call 303; with_reducible exact Calls.quiet_of_same (h1 _)) | (go_at_call 303; with_reducible exact Calls.quiet_of_same (h2 _))))
    go_wp2
    go_ret
    exact ⟨by rw [E.out]; rfl, _, rfl⟩
  · have h1 : ∀ W, Calls Tryz.prog 303 #[.int .i64 17] W fun e w' => e = .returned (.int .u64 131072) ∧ w' = W := fun W => r2power_calls 17 (by omega) W
    have h2 : ∀ W, Calls Tryz.prog 303 #[.int .i64 15] W fun e w' => e = .returned (.int .u64 32768) ∧ w' = W := fun W => r2power_calls 15 (by omega) W
    have e : ((rotrN x 17 : Nat) : Int) = (x : Int) / 131072 + (x : Int) % 131072 * 32768 := by unfold rotrN; omega
    have E := Lib.hid e
    clear e
    go_enter Tryz.func292, Tryz.ntmps292
    go_upto_region 1 with (fail)
    go_quiet ((first | (go_at_call 303; with_reducible exact Calls.quiet_of_same (h1 _)) | (go_at_call 303; with_reducible exact Calls.quiet_of_same (h2 _))))
    go_wp2
    go_ret
    exact ⟨by rw [E.out]; rfl, _, rfl⟩
  · have h1 : ∀ W, Calls Tryz.prog 303 #[.int .i64 18] W fun e w' => e = .returned (.int .u64 262144) ∧ w' = W := fun W => r2power_calls 18 (by omega) W
    have h2 : ∀ W, Calls Tryz.prog 303 #[.int .i64 14] W fun e w' => e = .returned (.int .u64 16384) ∧ w' = W := fun W => r2power_calls 14 (by omega) W
    have e : ((rotrN x 18 : Nat) : Int) = (x : Int) / 262144 + (x : Int) % 262144 * 16384 := by unfold rotrN; omega
    have E := Lib.hid e
    clear e
    go_enter Tryz.func292, Tryz.ntmps292
    go_upto_region 1 with (fail)
    go_quiet ((first | (go_at_call 303; with_reducible exact Calls.quiet_of_same (h1 _)) | (go_at_call 303; with_reducible exact Calls.quiet_of_same (h2 _))))
    go_wp2
    go_ret
    exact ⟨by rw [E.out]; rfl, _, rfl⟩
  · have h1 : ∀ W, Calls Tryz.prog 303 #[.int .i64 19] W fun e w' => e = .returned (.int .u64 524288) ∧ w' = W := fun W => r2power_calls 19 (by omega) W
    have h2 : ∀ W, Calls Tryz.prog 303 #[.int .i64 13] W fun e w' => e = .returned (.int .u64 8192) ∧ w' = W := fun W => r2power_calls 13 (by omega) W
    have e : ((rotrN x 19 : Nat) : Int) = (x : Int) / 524288 + (x : Int) % 524288 * 8192 := by unfold rotrN; omega
    have E := Lib.hid e
    clear e
    go_enter Tryz.func292, Tryz.ntmps292
    go_upto_region 1 with (fail)
    go_quiet ((first | (go_at_call 303; with_reducible exact Calls.quiet_of_same (h1 _)) | (go_at_call 303; with_reducible exact Calls.quiet_of_same (h2 _))))
    go_wp2
    go_ret
    exact ⟨by rw [E.out]; rfl, _, rfl⟩
  · have h1 : ∀ W, Calls Tryz.prog 303 #[.int .i64 22] W fun e w' => e = .returned (.int .u64 4194304) ∧ w' = W := fun W => r2power_calls 22 (by omega) W
    have h2 : ∀ W, Calls Tryz.prog 303 #[.int .i64 10] W fun e w' => e = .returned (.int .u64 1024) ∧ w' = W := fun W => r2power_calls 10 (by omega) W
    have e : ((rotrN x 22 : Nat) : Int) = (x : Int) / 4194304 + (x : Int) % 4194304 * 1024 := by unfold rotrN; omega
    have E := Lib.hid e
    clear e
    go_enter Tryz.func292, Tryz.ntmps292
    go_upto_region 1 with (fail)
    go_quiet ((first | (go_at_call 303; with_reducible exact Calls.quiet_of_same (h1 _)) | (go_at_call 303; with_reducible exact Calls.quiet_of_same (h2 _))))
    go_wp2
    go_ret
    exact ⟨by rw [E.out]; rfl, _, rfl⟩
  · have h1 : ∀ W, Calls Tryz.prog 303 #[.int .i64 25] W fun e w' => e = .returned (.int .u64 33554432) ∧ w' = W := fun W => r2power_calls 25 (by omega) W
    have h2 : ∀ W, Calls Tryz.prog 303 #[.int .i64 7] W fun e w' => e = .returned (.int .u64 128) ∧ w' = W := fun W => r2power_calls 7 (by omega) W
    have e : ((rotrN x 25 : Nat) : Int) = (x : Int) / 33554432 + (x : Int) % 33554432 * 128 := by unfold rotrN; omega
    have E := Lib.hid e
    clear e
    go_enter Tryz.func292, Tryz.ntmps292
    go_upto_region 1 with (fail)
    go_quiet ((first | (go_at_call 303; with_reducible exact Calls.quiet_of_same (h1 _)) | (go_at_call 303; with_reducible exact Calls.quiet_of_same (h2 _))))
    go_wp2
    go_ret
    exact ⟨by rw [E.out]; rfl, _, rfl⟩
theorem r2shr10 (x : Nat) (hx : x < 4294967296) (w : World) : Calls Tryz.prog 293 #[.int .u64 x, .int .i64 10] w fun e w' => e = .returned (.int .u64 (x / 1024 : Nat)) ∧ w' = w := by
  have h1 : ∀ W, Calls Tryz.prog 303 #[.int .i64 10] W fun e w' => e = .returned (.int .u64 1024) ∧ w' = W := fun W => r2power_calls 10 (by omega) W
  have e : ((x / 1024 : Nat) : Int) = (x : Int) / 1024 := by omega
  rw [e]
  clear e
  go_enter Tryz.func293, Tryz.ntmps293
  go_wp2_with (go_at_call 303; refine (h1 _).mono ?_; rintro e w1 ⟨rfl, hw1⟩; obtain rfl : w = w1 := hw1.symm)
  go_ret
  exact ⟨rfl, rfl⟩
theorem r2shr3 (x : Nat) (hx : x < 4294967296) (w : World) : Calls Tryz.prog 293 #[.int .u64 x, .int .i64 3] w fun e w' => e = .returned (.int .u64 (x / 8 : Nat)) ∧ w' = w := by
  have h1 : ∀ W, Calls Tryz.prog 303 #[.int .i64 3] W fun e w' => e = .returned (.int .u64 8) ∧ w' = W := fun W => r2power_calls 3 (by omega) W
  have e : ((x / 8 : Nat) : Int) = (x : Int) / 8 := by omega
  rw [e]
  clear e
  go_enter Tryz.func293, Tryz.ntmps293
  go_wp2_with (go_at_call 303; refine (h1 _).mono ?_; rintro e w1 ⟨rfl, hw1⟩; obtain rfl : w = w1 := hw1.symm)
  go_ret
  exact ⟨rfl, rfl⟩
/-! Bit by bit. -/
set_option maxRecDepth 100000 in
set_option maxHeartbeats 2000000 in
theorem r2xor_calls (x y z : Nat) (hx : x < 4294967296) (hy : y < 4294967296) (hz : z < 4294967296) (w : World) : Calls Tryz.prog 291 #[.int .u64 x, .int .u64 y, .int .u64 z] w fun e w' => e = .returned (.int .u64 (xor3 x y z)) ∧ w' = w := by
  have hR := xor3_lt hx hy hz
  generalize hRe : xor3 x y z = R at *
  have HR : Shut (xor3 x y z = R) := ⟨hRe⟩
  clear hRe
  go_enter Tryz.func291, Tryz.ntmps291
  go_wp2
  go_loopg [0, 1, 2, 7, 8, 9] 32 (fun g xx yy zz oo pp ii wx => ∃ i x' y' z' o : Nat, i ≤ 32 ∧ g = 32 - i ∧ xx = .int .u64 x' ∧ yy = .int .u64 y' ∧ zz = .int .u64 z' ∧ oo = .int .u64 o ∧ pp = .int .u64 (2 ^ i : Nat) ∧ ii = .int .i64 i ∧
    x' < 2 ^ (32 - i) ∧ y' < 2 ^ (32 - i) ∧ z' < 2 ^ (32 - i) ∧ o + 2 ^ i * xor3 x' y' z' = R ∧ wx = w)
  case atStart => exact ⟨0, x, y, z, 0, by omega, by omega, rfl, rfl, rfl, rfl, rfl, rfl, hx, hy, hz, by rw [HR.out]; omega, rfl⟩
  case round =>
    clear hx hy hz
    obtain ⟨i, x', y', z', o, hi, hg, rfl, rfl, rfl, rfl, rfl, rfl, hx, hy, hz, hsum, hw⟩ := hrel
    obtain rfl : w = wr := hw.symm
    by_cases hlt : i < 32
    · have hlt' := hlt
      have hp := Nat.pow_le_pow_right (show 0 < 2 from by omega) (show i ≤ 31 from by omega)
      have hs : 2 ^ (i + 1) = 2 * 2 ^ i := by rw [Nat.pow_succ]; omega
      have hd : 2 ^ (32 - i) = 2 * 2 ^ (32 - (i + 1)) := by rw [show 32 - i = (32 - (i + 1)) + 1 from by omega, Nat.pow_succ]; omega
      have ht := xor3_two x' y' z'
      have hX : 2 ^ (i + 1) * xor3 (x' / 2) (y' / 2) (z' / 2) = 2 * (2 ^ i * xor3 (x' / 2) (y' / 2) (z' / 2)) := by rw [hs, Nat.mul_assoc]
      have x1 : x' < 4294967296 := Nat.lt_of_lt_of_le hx (Nat.pow_le_pow_right (show 0 < 2 from by omega) (show 32 - i ≤ 32 from by omega))
      have y1 : y' < 4294967296 := Nat.lt_of_lt_of_le hy (Nat.pow_le_pow_right (show 0 < 2 from by omega) (show 32 - i ≤ 32 from by omega))
      have z1 : z' < 4294967296 := Nat.lt_of_lt_of_le hz (Nat.pow_le_pow_right (show 0 < 2 from by omega) (show 32 - i ≤ 32 from by omega))
      have hx2 : x' / 2 < 2 ^ (32 - (i + 1)) := by omega
      have hy2 : y' / 2 < 2 ^ (32 - (i + 1)) := by omega
      have hz2 : z' / 2 < 2 ^ (32 - (i + 1)) := by omega
      have HB := Lib.hid (And.intro hx2 (And.intro hy2 hz2))
      rw [ht, Nat.mul_add, Nat.mul_left_comm] at hsum
      clear hx hy hz hd ht hx2 hy2 hz2
      have hmx : x' % 2 = 0 ∨ x' % 2 = 1 := by omega
      have hmy : y' % 2 = 0 ∨ y' % 2 = 1 := by omega
      have hmz : z' % 2 = 0 ∨ z' % 2 = 1 := by omega
      have HG := Lib.hid hg
      clear hg
      generalize hP : 2 ^ i = P at *
      have HP : Shut (2 ^ i = P) := ⟨hP⟩
      clear hP
      have hp2 : P ≤ 2147483648 := hp
      generalize hFX : P * xor3 (x' / 2) (y' / 2) (z' / 2) = F at *
      have HX : Shut (2 ^ (i + 1) * xor3 (x' / 2) (y' / 2) (z' / 2) = 2 * F) := ⟨hX⟩
      have HS : Shut (2 ^ (i + 1) = 2 * P) := ⟨hs⟩
      clear hX hFX hs
      rcases hmx with ex | ex <;> rcases hmy with ey | ey <;> rcases hmz with ez | ez
      all_goals
        rw [ex, ey, ez] at hsum
        have qx : (x' : Int) % 2 = ((x' % 2 : Nat) : Int) := by omega
        have qy : (y' : Int) % 2 = ((y' % 2 : Nat) : Int) := by omega
        have qz : (z' : Int) % 2 = ((z' % 2 : Nat) : Int) := by omega
        rw [ex] at qx
        rw [ey] at qy
        rw [ez] at qz
        simp only [Nat.reduceAdd, Nat.reduceMod, Nat.reduceDiv, if_true, Nat.zero_ne_one, if_false, Nat.mul_zero, Nat.mul_one, Nat.add_zero] at hsum
        have ho : o ≤ 4294967295 := by omega
        have hoP : o + P ≤ 8589934592 := by omega
        have HSUM := Lib.hid hsum
        clear hsum ex ey ez
        go_wp2
        go_roundg (32 - (i + 1))
        case measure => rw [HG.out]; omega
        case rel => first
          | exact ⟨i + 1, x' / 2, y' / 2, z' / 2, o, by omega, rfl, by go_num, by go_num, by go_num, by go_num, by rw [HS.out]; go_num, by go_num, HB.out.1, HB.out.2.1, HB.out.2.2, by rw [HX.out]; have := HSUM.out; omega, rfl⟩
          | exact ⟨i + 1, x' / 2, y' / 2, z' / 2, o + P, by omega, rfl, by go_num, by go_num, by go_num, by go_num, by rw [HS.out]; go_num, by go_num, HB.out.1, HB.out.2.1, HB.out.2.2, by rw [HX.out]; have := HSUM.out; omega, rfl⟩
    · obtain rfl : i = 32 := by omega
      have x0 : x' = 0 := by simpa using hx
      have y0 : y' = 0 := by simpa using hy
      have z0 : z' = 0 := by simpa using hz
      subst x0 y0 z0
      rw [xor3_zero, Nat.mul_zero, Nat.add_zero] at hsum
      subst hsum
      clear hx hy hz hg
      go_wp2
      go_ret
      exact ⟨rfl, rfl⟩
set_option maxRecDepth 100000 in
set_option maxHeartbeats 2000000 in
theorem r2ch_calls (x y z : Nat) (hx : x < 4294967296) (hy : y < 4294967296) (hz : z < 4294967296) (w : World) : Calls Tryz.prog 294 #[.int .u64 x, .int .u64 y, .int .u64 z] w fun e w' => e = .returned (.int .u64 (chN x y z)) ∧ w' = w := by
  have hR := ch_lt hx hy hz
  generalize hRe : chN x y z = R at *
  have HR : Shut (chN x y z = R) := ⟨hRe⟩
  clear hRe
  go_enter Tryz.func294, Tryz.ntmps294
  go_wp2
  go_loopg [0, 1, 2, 7, 8, 9] 32 (fun g xx yy zz oo pp ii wx => ∃ i x' y' z' o : Nat, i ≤ 32 ∧ g = 32 - i ∧ xx = .int .u64 x' ∧ yy = .int .u64 y' ∧ zz = .int .u64 z' ∧ oo = .int .u64 o ∧ pp = .int .u64 (2 ^ i : Nat) ∧ ii = .int .i64 i ∧
    x' < 2 ^ (32 - i) ∧ y' < 2 ^ (32 - i) ∧ z' < 2 ^ (32 - i) ∧ o + 2 ^ i * chN x' y' z' = R ∧ wx = w)
  case atStart => exact ⟨0, x, y, z, 0, by omega, by omega, rfl, rfl, rfl, rfl, rfl, rfl, hx, hy, hz, by rw [HR.out]; omega, rfl⟩
  case round =>
    clear hx hy hz
    obtain ⟨i, x', y', z', o, hi, hg, rfl, rfl, rfl, rfl, rfl, rfl, hx, hy, hz, hsum, hw⟩ := hrel
    obtain rfl : w = wr := hw.symm
    by_cases hlt : i < 32
    · have hlt' := hlt
      have hp := Nat.pow_le_pow_right (show 0 < 2 from by omega) (show i ≤ 31 from by omega)
      have hs : 2 ^ (i + 1) = 2 * 2 ^ i := by rw [Nat.pow_succ]; omega
      have hd : 2 ^ (32 - i) = 2 * 2 ^ (32 - (i + 1)) := by rw [show 32 - i = (32 - (i + 1)) + 1 from by omega, Nat.pow_succ]; omega
      have ht := ch_two x' y' z'
      have hX : 2 ^ (i + 1) * chN (x' / 2) (y' / 2) (z' / 2) = 2 * (2 ^ i * chN (x' / 2) (y' / 2) (z' / 2)) := by rw [hs, Nat.mul_assoc]
      have x1 : x' < 4294967296 := Nat.lt_of_lt_of_le hx (Nat.pow_le_pow_right (show 0 < 2 from by omega) (show 32 - i ≤ 32 from by omega))
      have y1 : y' < 4294967296 := Nat.lt_of_lt_of_le hy (Nat.pow_le_pow_right (show 0 < 2 from by omega) (show 32 - i ≤ 32 from by omega))
      have z1 : z' < 4294967296 := Nat.lt_of_lt_of_le hz (Nat.pow_le_pow_right (show 0 < 2 from by omega) (show 32 - i ≤ 32 from by omega))
      have hx2 : x' / 2 < 2 ^ (32 - (i + 1)) := by omega
      have hy2 : y' / 2 < 2 ^ (32 - (i + 1)) := by omega
      have hz2 : z' / 2 < 2 ^ (32 - (i + 1)) := by omega
      have HB := Lib.hid (And.intro hx2 (And.intro hy2 hz2))
      rw [ht, Nat.mul_add, Nat.mul_left_comm] at hsum
      clear hx hy hz hd ht hx2 hy2 hz2
      have hmx : x' % 2 = 0 ∨ x' % 2 = 1 := by omega
      have hmy : y' % 2 = 0 ∨ y' % 2 = 1 := by omega
      have hmz : z' % 2 = 0 ∨ z' % 2 = 1 := by omega
      have HG := Lib.hid hg
      clear hg
      generalize hP : 2 ^ i = P at *
      have HP : Shut (2 ^ i = P) := ⟨hP⟩
      clear hP
      have hp2 : P ≤ 2147483648 := hp
      generalize hFX : P * chN (x' / 2) (y' / 2) (z' / 2) = F at *
      have HX : Shut (2 ^ (i + 1) * chN (x' / 2) (y' / 2) (z' / 2) = 2 * F) := ⟨hX⟩
      have HS : Shut (2 ^ (i + 1) = 2 * P) := ⟨hs⟩
      clear hX hFX hs
      rcases hmx with ex | ex <;> rcases hmy with ey | ey <;> rcases hmz with ez | ez
      all_goals
        rw [ex, ey, ez] at hsum
        have qx : (x' : Int) % 2 = ((x' % 2 : Nat) : Int) := by omega
        have qy : (y' : Int) % 2 = ((y' % 2 : Nat) : Int) := by omega
        have qz : (z' : Int) % 2 = ((z' % 2 : Nat) : Int) := by omega
        rw [ex] at qx
        rw [ey] at qy
        rw [ez] at qz
        simp only [Nat.reduceAdd, Nat.reduceMod, Nat.reduceDiv, if_true, Nat.zero_ne_one, if_false, Nat.mul_zero, Nat.mul_one, Nat.add_zero] at hsum
        have ho : o ≤ 4294967295 := by omega
        have hoP : o + P ≤ 8589934592 := by omega
        have HSUM := Lib.hid hsum
        clear hsum ex ey ez
        go_wp2
        go_roundg (32 - (i + 1))
        case measure => rw [HG.out]; omega
        case rel => first
          | exact ⟨i + 1, x' / 2, y' / 2, z' / 2, o, by omega, rfl, by go_num, by go_num, by go_num, by go_num, by rw [HS.out]; go_num, by go_num, HB.out.1, HB.out.2.1, HB.out.2.2, by rw [HX.out]; have := HSUM.out; omega, rfl⟩
          | exact ⟨i + 1, x' / 2, y' / 2, z' / 2, o + P, by omega, rfl, by go_num, by go_num, by go_num, by go_num, by rw [HS.out]; go_num, by go_num, HB.out.1, HB.out.2.1, HB.out.2.2, by rw [HX.out]; have := HSUM.out; omega, rfl⟩
    · obtain rfl : i = 32 := by omega
      have x0 : x' = 0 := by simpa using hx
      have y0 : y' = 0 := by simpa using hy
      have z0 : z' = 0 := by simpa using hz
      subst x0 y0 z0
      rw [ch_zero, Nat.mul_zero, Nat.add_zero] at hsum
      subst hsum
      clear hx hy hz hg
      go_wp2
      go_ret
      exact ⟨rfl, rfl⟩
set_option maxRecDepth 100000 in
set_option maxHeartbeats 2000000 in
theorem r2maj_calls (x y z : Nat) (hx : x < 4294967296) (hy : y < 4294967296) (hz : z < 4294967296) (w : World) : Calls Tryz.prog 295 #[.int .u64 x, .int .u64 y, .int .u64 z] w fun e w' => e = .returned (.int .u64 (majN x y z)) ∧ w' = w := by
  have hR := maj_lt hx hy hz
  generalize hRe : majN x y z = R at *
  have HR : Shut (majN x y z = R) := ⟨hRe⟩
  clear hRe
  go_enter Tryz.func295, Tryz.ntmps295
  go_wp2
  go_loopg [0, 1, 2, 7, 8, 9] 32 (fun g xx yy zz oo pp ii wx => ∃ i x' y' z' o : Nat, i ≤ 32 ∧ g = 32 - i ∧ xx = .int .u64 x' ∧ yy = .int .u64 y' ∧ zz = .int .u64 z' ∧ oo = .int .u64 o ∧ pp = .int .u64 (2 ^ i : Nat) ∧ ii = .int .i64 i ∧
    x' < 2 ^ (32 - i) ∧ y' < 2 ^ (32 - i) ∧ z' < 2 ^ (32 - i) ∧ o + 2 ^ i * majN x' y' z' = R ∧ wx = w)
  case atStart => exact ⟨0, x, y, z, 0, by omega, by omega, rfl, rfl, rfl, rfl, rfl, rfl, hx, hy, hz, by rw [HR.out]; omega, rfl⟩
  case round =>
    clear hx hy hz
    obtain ⟨i, x', y', z', o, hi, hg, rfl, rfl, rfl, rfl, rfl, rfl, hx, hy, hz, hsum, hw⟩ := hrel
    obtain rfl : w = wr := hw.symm
    by_cases hlt : i < 32
    · have hlt' := hlt
      have hp := Nat.pow_le_pow_right (show 0 < 2 from by omega) (show i ≤ 31 from by omega)
      have hs : 2 ^ (i + 1) = 2 * 2 ^ i := by rw [Nat.pow_succ]; omega
      have hd : 2 ^ (32 - i) = 2 * 2 ^ (32 - (i + 1)) := by rw [show 32 - i = (32 - (i + 1)) + 1 from by omega, Nat.pow_succ]; omega
      have ht := maj_two x' y' z'
      have hX : 2 ^ (i + 1) * majN (x' / 2) (y' / 2) (z' / 2) = 2 * (2 ^ i * majN (x' / 2) (y' / 2) (z' / 2)) := by rw [hs, Nat.mul_assoc]
      have x1 : x' < 4294967296 := Nat.lt_of_lt_of_le hx (Nat.pow_le_pow_right (show 0 < 2 from by omega) (show 32 - i ≤ 32 from by omega))
      have y1 : y' < 4294967296 := Nat.lt_of_lt_of_le hy (Nat.pow_le_pow_right (show 0 < 2 from by omega) (show 32 - i ≤ 32 from by omega))
      have z1 : z' < 4294967296 := Nat.lt_of_lt_of_le hz (Nat.pow_le_pow_right (show 0 < 2 from by omega) (show 32 - i ≤ 32 from by omega))
      have hx2 : x' / 2 < 2 ^ (32 - (i + 1)) := by omega
      have hy2 : y' / 2 < 2 ^ (32 - (i + 1)) := by omega
      have hz2 : z' / 2 < 2 ^ (32 - (i + 1)) := by omega
      have HB := Lib.hid (And.intro hx2 (And.intro hy2 hz2))
      rw [ht, Nat.mul_add, Nat.mul_left_comm] at hsum
      clear hx hy hz hd ht hx2 hy2 hz2
      have hmx : x' % 2 = 0 ∨ x' % 2 = 1 := by omega
      have hmy : y' % 2 = 0 ∨ y' % 2 = 1 := by omega
      have hmz : z' % 2 = 0 ∨ z' % 2 = 1 := by omega
      have HG := Lib.hid hg
      clear hg
      generalize hP : 2 ^ i = P at *
      have HP : Shut (2 ^ i = P) := ⟨hP⟩
      clear hP
      have hp2 : P ≤ 2147483648 := hp
      generalize hFX : P * majN (x' / 2) (y' / 2) (z' / 2) = F at *
      have HX : Shut (2 ^ (i + 1) * majN (x' / 2) (y' / 2) (z' / 2) = 2 * F) := ⟨hX⟩
      have HS : Shut (2 ^ (i + 1) = 2 * P) := ⟨hs⟩
      clear hX hFX hs
      rcases hmx with ex | ex <;> rcases hmy with ey | ey <;> rcases hmz with ez | ez
      all_goals
        rw [ex, ey, ez] at hsum
        have qx : (x' : Int) % 2 = ((x' % 2 : Nat) : Int) := by omega
        have qy : (y' : Int) % 2 = ((y' % 2 : Nat) : Int) := by omega
        have qz : (z' : Int) % 2 = ((z' % 2 : Nat) : Int) := by omega
        rw [ex] at qx
        rw [ey] at qy
        rw [ez] at qz
        simp only [Nat.reduceAdd, Nat.reduceMod, Nat.reduceDiv, if_true, Nat.zero_ne_one, if_false, Nat.mul_zero, Nat.mul_one, Nat.add_zero] at hsum
        have ho : o ≤ 4294967295 := by omega
        have hoP : o + P ≤ 8589934592 := by omega
        have HSUM := Lib.hid hsum
        clear hsum ex ey ez
        go_wp2
        go_roundg (32 - (i + 1))
        case measure => rw [HG.out]; omega
        case rel => first
          | exact ⟨i + 1, x' / 2, y' / 2, z' / 2, o, by omega, rfl, by go_num, by go_num, by go_num, by go_num, by rw [HS.out]; go_num, by go_num, HB.out.1, HB.out.2.1, HB.out.2.2, by rw [HX.out]; have := HSUM.out; omega, rfl⟩
          | exact ⟨i + 1, x' / 2, y' / 2, z' / 2, o + P, by omega, rfl, by go_num, by go_num, by go_num, by go_num, by rw [HS.out]; go_num, by go_num, HB.out.1, HB.out.2.1, HB.out.2.2, by rw [HX.out]; have := HSUM.out; omega, rfl⟩
    · obtain rfl : i = 32 := by omega
      have x0 : x' = 0 := by simpa using hx
      have y0 : y' = 0 := by simpa using hy
      have z0 : z' = 0 := by simpa using hz
      subst x0 y0 z0
      rw [maj_zero, Nat.mul_zero, Nat.add_zero] at hsum
      subst hsum
      clear hx hy hz hg
      go_wp2
      go_ret
      exact ⟨rfl, rfl⟩
end Go.Proofs.YtpklkefnmoaaaaaGreatDoor

/- The document's Nodes walked. -/
namespace Go.Proofs.YtpklkefnmoaaaaaGreatDoor
open Go.RowKit
set_option linter.unusedVariables false
set_option linter.unusedSimpArgs false
theorem r3nodes_calls (n : Nat) (hn : n ≤ 4611686018427387904) (w : World) : Calls Tryz.prog 157 #[.int .u64 n] w fun e w' => e = .returned (.tuple #[.int .u64 (nodesN n : Nat), .bool true]) ∧ w' = w := by
  have hle := nodes_le n
  have hnd : decide ((4611686018427387904 : Int) < (n : Int)) = false := decide_eq_false (by omega)
  generalize hNN : nodesN n = T at *
  have HT := Lib.hid hNN
  clear hNN
  go_enter Tryz.func157, Tryz.ntmps157
  go_wp2
  go_loopg [0, 4] n (fun g nn ss wx => ∃ m s : Nat, m ≤ n ∧ g = m ∧ s + nodesN m = T ∧ nn = .int .u64 m ∧ ss = .int .u64 s ∧ wx = w)
  case atStart => exact ⟨n, 0, by omega, rfl, by rw [HT.out]; omega, rfl, rfl, rfl⟩
  case round =>
    obtain ⟨m, s, hm, hg, hs, rfl, rfl, hw⟩ := hrel
    obtain rfl : w = wr := hw.symm
    by_cases h0 : m = 0
    · subst h0
      rw [nodes_zero] at hs
      obtain rfl : s = T := by omega
      have hd : decide ((0 : Int) < ((0 : Nat) : Int)) = false := by simp
      clear hg
      go_wp2
      go_ret2
      exact ⟨rfl, rfl⟩
    · have hd : decide ((0 : Int) < (m : Int)) = true := by simp; omega
      have hh := nodes_half m
      have hge := nodes_ge (m / 2)
      have hst : s + m + nodesN (m / 2) = T := by omega
      have hsm : s + m ≤ 9223372036854775808 := by omega
      have HS := Lib.hid hst
      have HG := Lib.hid hg
      clear hh hge hst hs hg
      go_wp2
      go_roundg (m / 2)
      case measure => rw [HG.out]; omega
      case rel => exact ⟨m / 2, s + m, by omega, rfl, HS.out, by go_num, by go_num, rfl⟩
end Go.Proofs.YtpklkefnmoaaaaaGreatDoor

/- The document's hash, plainly: a text's blocks give the sum. -/
namespace Go.Proofs.YtpklkefnmoaaaaaGreatDoor
open Go.RowKit
set_option linter.unusedVariables false
set_option linter.unusedSimpArgs false

def blocksN (l : List Nat) (m : Nat) : List (List Nat) := (List.range m).map fun i => (l.drop (64 * i)).take 64
theorem blocksN_length (l : List Nat) (m : Nat) : (blocksN l m).length = m := by simp [blocksN]
theorem blocksN_snoc (l : List Nat) (m : Nat) : blocksN l (m + 1) = blocksN l m ++ [(l.drop (64 * m)).take 64] := by simp [blocksN, List.range_succ]
theorem blocksN_cons (l : List Nat) (m : Nat) : blocksN l (m + 1) = l.take 64 :: blocksN (l.drop 64) m := by
  unfold blocksN
  rw [List.range_succ_eq_map, List.map_cons, List.map_map]
  congr 1
  apply List.map_congr_left
  intro i _
  simp only [Function.comp, List.drop_drop]
  congr 2
  omega
theorem patch_whole (r c : List Nat) (hr : r.length = 64) (hc : c.length = 64) : patch r 0 c = c := by
  unfold patch
  rw [List.take_zero, List.nil_append, List.drop_of_length_le (by omega), List.append_nil]
theorem absorbs_blocks (wd : Int) : ∀ (m : Nat) (l : List Nat) (h : HS), l.length = 64 * m → h.rest.length = 64 → h.n % 64 = 0 → (absorbs wd h l).st = (blocksN l m).foldl (compressN wd) h.st
  | 0, l, h, hl, _, _ => by
    obtain rfl : l = [] := List.eq_nil_of_length_eq_zero (by omega)
    rfl
  | m + 1, l, h, hl, hr, hn => by
    have hc : (l.take 64).length = 64 := by rw [List.length_take]; omega
    have hne : l.take 64 ≠ [] := fun e => by rw [e] at hc; simp at hc
    have h1 := absorbs_chunk wd (l.take 64) h hr hne (by omega)
    rw [hc, if_pos (by omega), hn, patch_whole _ _ hr hc] at h1
    have h2 := absorbs_blocks wd m (l.drop 64) ⟨compressN wd h.st (l.take 64), l.take 64, h.n + 64⟩ (by rw [List.length_drop]; omega) hc (by show (h.n + 64) % 64 = 0; omega)
    rw [← List.take_append_drop 64 l, absorbs_app, h1, List.take_append_drop, h2, blocksN_cons, List.foldl_cons]
def padded (l : List Nat) : List Nat := l ++ tailN l.length
theorem padded_length (l : List Nat) : (padded l).length = l.length + 9 + padN l.length := by
  unfold padded tailN
  simp [bigN_length]
  omega
theorem padded_64 (l : List Nat) : (padded l).length % 64 = 0 := by
  rw [padded_length]
  unfold padN
  omega
theorem sum_blocks (wd : Int) (l : List Nat) : sumN wd l = (blocksN (padded l) ((padded l).length / 64)).foldl (compressN wd) (cutN wd firstN) := by
  unfold sumN
  rw [← absorbs_app]
  have h := padded_64 l
  exact absorbs_blocks wd ((padded l).length / 64) (padded l) (startN wd) (by omega) (by simp [startN]) rfl
theorem padded_lt (l : List Nat) (hb : ∀ x ∈ l, x < 256) : ∀ x ∈ padded l, x < 256 := by
  intro x hx
  rcases List.mem_append.1 hx with h | h
  · exact hb x h
  · exact tailN_lt _ x h
theorem blocksN_ok (l : List Nat) (m : Nat) (hl : 64 * m ≤ l.length) (hb : ∀ x ∈ l, x < 256) : ∀ b ∈ blocksN l m, b.length = 64 ∧ ∀ x ∈ b, x < 256 := by
  intro b hb'
  obtain ⟨i, hi, rfl⟩ := List.mem_map.1 hb'
  have := List.mem_range.1 hi
  refine ⟨by rw [List.length_take, List.length_drop]; omega, fun x hx => hb x (List.mem_of_mem_drop (List.mem_of_mem_take hx))⟩
/-- The states behind the first blocks. -/
def statesN (wd : Int) (bs : List (List Nat)) : Nat → List Nat
  | 0 => cutN wd firstN
  | i + 1 => compressN wd (statesN wd bs i) (bs.getD i [])
theorem states_fold (wd : Int) (bs : List (List Nat)) : ∀ i, i ≤ bs.length → statesN wd bs i = (bs.take i).foldl (compressN wd) (cutN wd firstN)
  | 0, _ => rfl
  | i + 1, h => by
    rw [List.take_succ_eq_append_getElem (show i < bs.length from h), List.foldl_append, ← states_fold wd bs i (by omega), statesN]
    simp [List.getD, show i < bs.length from h]
theorem states_ok (wd : Int) (bs : List (List Nat)) : ∀ i, (statesN wd bs i).length = 32 ∧ ∀ x ∈ statesN wd bs i, x < 256
  | 0 => ⟨cut_length wd firstN rfl, cut_lt wd firstN (by decide)⟩
  | i + 1 => compress_ok wd _ _
end Go.Proofs.YtpklkefnmoaaaaaGreatDoor

/- The document's hash: the width, cut off, the state ahead of all, the table, words. -/
namespace Go.Proofs.YtpklkefnmoaaaaaGreatDoor
open Go.RowKit
set_option linter.unusedVariables false
set_option linter.unusedSimpArgs false

theorem r2width_calls (wd : Int) (w : World) : Calls Tryz.prog 78 #[.int .i64 wd] w fun e w' => e = .returned (.int .i64 (widthN wd : Nat)) ∧ w' = w := by
  by_cases h1 : wd < 1
  · have e : ((widthN wd : Nat) : Int) = 1 := by unfold widthN; omega
    rw [e]
    go_enter Tryz.func78, Tryz.ntmps78
    go_wp2
    go_ret
    exact ⟨rfl, rfl⟩
  · by_cases h2 : 32 < wd
    · have e : ((widthN wd : Nat) : Int) = 32 := by unfold widthN; omega
      rw [e]
      go_enter Tryz.func78, Tryz.ntmps78
      go_wp2
      go_ret
      exact ⟨rfl, rfl⟩
    · have e : ((widthN wd : Nat) : Int) = wd := by unfold widthN; omega
      rw [e]
      clear e
      go_enter Tryz.func78, Tryz.ntmps78
      go_wp2
      go_ret
      exact ⟨rfl, rfl⟩
/-- Bytes of which those from a to i are 0. -/
def cutTo (l : List Nat) (a i : Nat) : List Nat := l.take a ++ List.replicate (i - a) 0 ++ l.drop i
theorem cutTo_start (l : List Nat) (a : Nat) : cutTo l a a = l := by simp [cutTo]
theorem cutTo_length (l : List Nat) (a i : Nat) (ha : a ≤ i) (hi : i ≤ l.length) : (cutTo l a i).length = l.length := by simp [cutTo]; omega
theorem cutTo_succ (l : List Nat) (a i : Nat) (ha : a ≤ i) (hi : i < l.length) : (cutTo l a i).set i 0 = cutTo l a (i + 1) := by
  unfold cutTo
  have h1 : (l.take a ++ List.replicate (i - a) 0).length = i := by simp; omega
  rw [List.set_append_right _ _ (by omega), h1, Nat.sub_self, List.drop_eq_getElem_cons hi, List.set_cons_zero, show i + 1 - a = (i - a) + 1 from by omega, List.replicate_succ']
  simp
theorem cutTo_end (wd : Int) (l : List Nat) (h : l.length = 32) : cutTo l (widthN wd) 32 = cutN wd l := by
  unfold cutTo cutN
  rw [h, List.drop_of_length_le (by omega), List.append_nil]
theorem widthN_fit (wd : Int) : 1 ≤ widthN wd ∧ widthN wd ≤ 32 := by unfold widthN; omega
set_option maxRecDepth 100000 in
theorem r2cut_calls (w : World) (wd : Int) (l : List Nat) (hs : l.length = 32) (hb : ∀ x ∈ l, x < 256) : Calls Tryz.prog 288 #[.int .i64 wd, .agg (hV l)] w (Res w [] (.agg (hV (cutN wd l)))) := by
  have hwf := widthN_fit wd
  have hwi := fun W => r2width_calls wd W
  have hend := cutTo_end wd l hs
  generalize widthN wd = a at *
  generalize hC : cutN wd l = C at *
  have hCl : C.length = 32 := by rw [← hend, cutTo_length _ _ _ hwf.2 (by omega)]; exact hs
  have hCb : ∀ x ∈ C, x < 256 := by rw [← hC]; exact cut_lt wd l hb
  clear hC
  obtain ⟨w0, rfl⟩ : ∃ w0 : World, w0 = w := ⟨_, rfl⟩
  have hm0 : may ((w0.alloc (.cells (hV l) 36)).alloc (.cells zeroHash 36)) (w0.heap.size + 1) 0 32 = true := may_hash2 w0 l
  have hbx : ((w0.alloc (.cells (hV l) 36)).alloc (.cells zeroHash 36)).heap[w0.heap.size]? = some (.cells (hV (cutTo l a a)) 36 (0, 0)) := by rw [cutTo_start]; exact blk_alloc (blk_new w0 _) _
  have hch : Chg [] w0 ((w0.alloc (.cells (hV l) 36)).alloc (.cells zeroHash 36)) := ((Chg.refl _ _).alloc _).alloc _
  have hsz : (hV l).size = 32 := by rw [hV_size]; exact hs
  go_enter Tryz.func288, Tryz.ntmps288
  go_wp2_with (go_at_call 78; refine (hwi _).mono ?_; rintro e w1 ⟨rfl, hw1⟩; subst hw1)
  generalize (w0.alloc (.cells (hV l) 36)).alloc (.cells zeroHash 36) = w2 at *
  go_loopg [5] (32 - a) (fun g ii wx => ∃ i : Nat, a ≤ i ∧ i ≤ 32 ∧ g = 32 - i ∧ ii = .int .i64 i ∧ wx.heap[w0.heap.size]? = some (.cells (hV (cutTo l a i)) 36 (0, 0)) ∧ may wx (w0.heap.size + 1) 0 32 = true ∧ Chg [] w0 wx)
  case atStart => exact ⟨a, Nat.le_refl _, hwf.2, rfl, rfl, hbx, hm0, hch⟩
  case round =>
    clear hbx hm0 hch
    obtain ⟨i, hai, hi, hg, rfl, hbx, hm, hC⟩ := hrel
    have hlen := cutTo_length l a i hai (by omega)
    by_cases hlt : i < 32
    · have hlt' := hlt
      have hset := cutTo_succ l a i hai (by omega)
      have hcell := blk_cell hbx i (hV_at (cutTo l a i) i (by omega))
      have hfr := blk_frozen hbx i
      have hnx := blk_set hbx i (.int .u8 0)
      have e0 : (Value.int .u8 0) = .int .u8 ((0 : Nat) : Int) := rfl
      rw [e0, hV_set, hset] at hnx
      have hnx2 : (wr.setCell ⟨w0.heap.size, i, none⟩ (.int .u8 0)).heap[w0.heap.size]? = some (.cells (hV (cutTo l a (i + 1))) 36 (0, 0)) := hnx
      have hmx : may (wr.setCell ⟨w0.heap.size, i, none⟩ (.int .u8 0)) (w0.heap.size + 1) 0 32 = true := may_chg (F := [w0.heap.size]) ((Chg.refl _ _).setCell (by simp) _) hm (by omega) (by simp)
      have hcx : Chg [] w0 (wr.setCell ⟨w0.heap.size, i, none⟩ (.int .u8 0)) := hC.setCell (.inr (Nat.le_refl _)) _
      have n0 : (0 : Int) ≤ (i : Int) := by omega
      have n1 : (i : Int) < 32 := by omega
      have HNX := Lib.hid hnx2
      have HMX := Lib.hid hmx
      have HCX := Lib.hid hcx
      have HG := Lib.hid hg
      have hbl := blk_lt hbx
      clear hset hnx hnx2 hmx hcx hg hbx hm hlen e0
      go_wp2
      go_roundg (32 - (i + 1))
      case measure => rw [HG.out]; omega
      case rel => exact ⟨i + 1, by omega, by omega, rfl, by go_num, HNX.out, HMX.out, HCX.out⟩
    · obtain rfl : i = 32 := by omega
      rw [hend] at hbx
      have hr := hash_rng hbx hCl
      have hl := blk_lt hbx
      have hs2 : (hV C).size = 32 := by rw [hV_size]; exact hCl
      have ho2 := (hV_is C hCl hCb).one
      clear hbx hend hg hlen
      go_wp2
      refine bodyPost_ret (res_Hash1 rfl _ _ rfl (rng?_setRng_same _ _ _ _ _ hm hs2)) rfl ⟨rfl, ?_⟩
      exact hC.setRng (.inr (by omega)) _ _
set_option maxRecDepth 100000 in
theorem r2begin_calls (w : World) (wd : Int) : Calls Tryz.prog 266 #[.int .i64 wd] w (Res w [] (.agg (hV (cutN wd firstN)))) := by
  have hc := r2cut_calls (w.alloc (.cells zeroHash 36)) wd firstN rfl (by decide)
  have hm0 := may_alloc_at w w.heap.size 32 zeroHash 36 rfl zeroHash_size
  have hl := cut_length wd firstN rfl
  have hb := cut_lt wd firstN (by decide)
  have hi := hV_is _ hl hb
  have hs := hi.1
  have ho := hi.one
  generalize cutN wd firstN = C at *
  have hfirst : hV firstN = #[.int .u8 106, .int .u8 9, .int .u8 230, .int .u8 103, .int .u8 187, .int .u8 103, .int .u8 174, .int .u8 133, .int .u8 60, .int .u8 110, .int .u8 243, .int .u8 114, .int .u8 165, .int .u8 79, .int .u8 245, .int .u8 58, .int .u8 81, .int .u8 14, .int .u8 82, .int .u8 127, .int .u8 155, .int .u8 5, .int .u8 104, .int .u8 140, .int .u8 31, .int .u8 131, .int .u8 217, .int .u8 171, .int .u8 91, .int .u8 224, .int .u8 205, .int .u8 25] := rfl
  have hbd : (bdX 36 #[(0, .int .u8 106), (1, .int .u8 9), (2, .int .u8 230), (3, .int .u8 103), (4, .int .u8 187), (5, .int .u8 103), (6, .int .u8 174), (7, .int .u8 133), (8, .int .u8 60), (9, .int .u8 110), (10, .int .u8 243), (11, .int .u8 114), (12, .int .u8 165), (13, .int .u8 79), (14, .int .u8 245), (15, .int .u8 58), (16, .int .u8 81), (17, .int .u8 14), (18, .int .u8 82), (19, .int .u8 127), (20, .int .u8 155), (21, .int .u8 5), (22, .int .u8 104), (23, .int .u8 140), (24, .int .u8 31), (25, .int .u8 131), (26, .int .u8 217), (27, .int .u8 171), (28, .int .u8 91), (29, .int .u8 224), (30, .int .u8 205), (31, .int .u8 25)]).run Tryz.prog (w.alloc (.cells zeroHash 36)) = .ok (.agg (hV firstN)) (w.alloc (.cells zeroHash 36)) := by kernel_rfl
  clear hfirst
  generalize hV firstN = F at *
  go_enter Tryz.func266, Tryz.ntmps266
  go_wp2_with (go_at_call 288; refine hc.mono ?_; rintro e w3 ⟨rfl, hc3⟩; have hm3 := may_chg hc3 hm0 (by omega) (by simp))
  refine bodyPost_ret (res_Hash1 rfl _ _ rfl (rng?_setRng_same _ _ _ _ _ hm3 hs)) rfl ⟨rfl, ?_⟩
  exact (((Chg.refl [] w).alloc _).nil_trans hc3).setRng (.inr (Nat.le_refl _)) _ _
end Go.Proofs.YtpklkefnmoaaaaaGreatDoor

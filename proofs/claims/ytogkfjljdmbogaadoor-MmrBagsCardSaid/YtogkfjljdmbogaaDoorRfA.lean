/- The document's hash: powers, turning, bits one by one. -/
import Derived.Test.YtogkfjljdmbogaaDoorHaE
import Derived.BigQuiet
import Derived.Deep.LoopGhost
namespace Go.Proofs.YtogkfjljdmbogaaDoor
open Go.RowKit
set_option linter.unusedVariables false
set_option linter.unusedSimpArgs false

theorem r2power_calls (n : Nat) (hn : n ≤ 62) (w : World) : Calls Tryd.prog 87 #[.int .i64 n] w fun e w' => e = .returned (.int .u64 (2 ^ n : Nat)) ∧ w' = w := by
  go_enter Tryd.func87, Tryd.ntmps87
  go_wp2
  go_loopg [3, 4] n (fun g pp ii wx => ∃ i : Nat, i ≤ n ∧ g = n - i ∧ pp = .int .u64 (2 ^ i : Nat) ∧ ii = .int .i64 i ∧ wx = w)
  case atStart => exact ⟨0, by omega, by omega, rfl, rfl, rfl⟩
  case round =>
    obtain ⟨i, hi, hg, rfl, rfl, hw⟩ := hrel
    obtain rfl : w = wr := hw.symm
    by_cases hlt : i < n
    · have hlt' := hlt
      have hp := Nat.pow_le_pow_right (show 0 < 2 from by omega) (show i ≤ 61 from by omega)
      have hs : 2 ^ (i + 1) = 2 * 2 ^ i := by rw [Nat.pow_succ]; omega
      have HS := Lib.hid hs
      have HG := Lib.hid hg
      clear hs hg
      generalize 2 ^ i = P at *
      have hp2 : P ≤ 2305843009213693952 := hp
      go_wp2
      go_roundg (n - (i + 1))
      case measure => rw [HG.out]; omega
      case rel => exact ⟨i + 1, by omega, rfl, by rw [HS.out]; go_num, by go_num, rfl⟩
    · obtain rfl : i = n := by omega
      clear hg
      go_wp2
      go_ret
      exact ⟨rfl, rfl⟩
set_option maxRecDepth 100000 in
set_option maxHeartbeats 4000000 in
theorem r2rotr_calls (x n : Nat) (hx : x < 4294967296) (hn : n ∈ [2, 6, 7, 11, 13, 17, 18, 19, 22, 25]) (w : World) : Calls Tryd.prog 80 #[.int .u64 x, .int .i64 n] w fun e w' => e = .returned (.int .u64 (rotrN x n)) ∧ ∃ q, w' = w.drewN q := by
  simp only [List.mem_cons, List.not_mem_nil, or_false] at hn
  rcases hn with rfl | rfl | rfl | rfl | rfl | rfl | rfl | rfl | rfl | rfl
  · have h1 : ∀ W, Calls Tryd.prog 87 #[.int .i64 2] W fun e w' => e = .returned (.int .u64 4) ∧ w' = W := fun W => r2power_calls 2 (by omega) W
    have h2 : ∀ W, Calls Tryd.prog 87 #[.int .i64 30] W fun e w' => e = .returned (.int .u64 1073741824) ∧ w' = W := fun W => r2power_calls 30 (by omega) W
    have e : ((rotrN x 2 : Nat) : Int) = (x : Int) / 4 + (x : Int) % 4 * 1073741824 := by unfold rotrN; omega
    have E := Lib.hid e
    clear e
    go_enter Tryd.func80, Tryd.ntmps80
    go_upto_region 1 with (fail)
    go_quiet ((first | (go_at_call 87; with_reducible exact Calls.quiet_of_same (h1 _)) | (go_at_call 87; with_reducible exact Calls.quiet_of_same (h2 _))))
    go_wp2
    go_ret
    exact ⟨by rw [E.out]; rfl, _, rfl⟩
  · have h1 : ∀ W, Calls Tryd.prog 87 #[.int .i64 6] W fun e w' => e = .returned (.int .u64 64) ∧ w' = W := fun W => r2power_calls 6 (by omega) W
    have h2 : ∀ W, Calls Tryd.prog 87 #[.int .i64 26] W fun e w' => e = .returned (.int .u64 67108864) ∧ w' = W := fun W => r2power_calls 26 (by omega) W
    have e : ((rotrN x 6 : Nat) : Int) = (x : Int) / 64 + (x : Int) % 64 * 67108864 := by unfold rotrN; omega
    have E := Lib.hid e
    clear e
    go_enter Tryd.func80, Tryd.ntmps80
    go_upto_region 1 with (fail)
    go_quiet ((first | (go_at_call 87; with_reducible exact Calls.quiet_of_same (h1 _)) | (go_at_call 87; with_reducible exact Calls.quiet_of_same (h2 _))))
    go_wp2
    go_ret
    exact ⟨by rw [E.out]; rfl, _, rfl⟩
  · have h1 : ∀ W, Calls Tryd.prog 87 #[.int .i64 7] W fun e w' => e = .returned (.int .u64 128) ∧ w' = W := fun W => r2power_calls 7 (by omega) W
    have h2 : ∀ W, Calls Tryd.prog 87 #[.int .i64 25] W fun e w' => e = .returned (.int .u64 33554432) ∧ w' = W := fun W => r2power_calls 25 (by omega) W
    have e : ((rotrN x 7 : Nat) : Int) = (x : Int) / 128 + (x : Int) % 128 * 33554432 := by unfold rotrN; omega
    have E := Lib.hid e
    clear e
    go_enter Tryd.func80, Tryd.ntmps80
    go_upto_region 1 with (fail)
    go_quiet ((first | (go_at_call 87; with_reducible exact Calls.quiet_of_same (h1 _)) | (go_at_call 87; with_reducible exact Calls.quiet_of_same (h2 _))))
    go_wp2
    go_ret
    exact ⟨by rw [E.out]; rfl, _, rfl⟩
  · have h1 : ∀ W, Calls Tryd.prog 87 #[.int .i64 11] W fun e w' => e = .returned (.int .u64 2048) ∧ w' = W := fun W => r2power_calls 11 (by omega) W
    have h2 : ∀ W, Calls Tryd.prog 87 #[.int .i64 21] W fun e w' => e = .returned (.int .u64 2097152) ∧ w' = W := fun W => r2power_calls 21 (by omega) W
    have e : ((rotrN x 11 : Nat) : Int) = (x : Int) / 2048 + (x : Int) % 2048 * 2097152 := by unfold rotrN; omega
    have E := Lib.hid e
    clear e
    go_enter Tryd.func80, Tryd.ntmps80
    go_upto_region 1 with (fail)
    go_quiet ((first | (go_at_call 87; with_reducible exact Calls.quiet_of_same (h1 _)) | (go_at_call 87; with_reducible exact Calls.quiet_of_same (h2 _))))
    go_wp2
    go_ret
    exact ⟨by rw [E.out]; rfl, _, rfl⟩
  · have h1 : ∀ W, Calls Tryd.prog 87 #[.int .i64 13] W fun e w' => e = .returned (.int .u64 8192) ∧ w' = W := fun W => r2power_calls 13 (by omega) W
    have h2 : ∀ W, Calls Tryd.prog 87 #[.int .i64 19] W fun e w' => e = .returned (.int .u64 524288) ∧ w' = W := fun W => r2power_calls 19 (by omega) W
    have e : ((rotrN x 13 : Nat) : Int) = (x : Int) / 8192 + (x : Int) % 8192 * 524288 := by unfold rotrN; omega
    have E := Lib.hid e
    clear e
    go_enter Tryd.func80, Tryd.ntmps80
    go_upto_region 1 with (fail)
    go_quiet ((first | (go_at_call 87; with_reducible exact Calls.quiet_of_same (h1 _)) | (go_at_call 87; with_reducible exact Calls.quiet_of_same (h2 _))))
    go_wp2
    go_ret
    exact ⟨by rw [E.out]; rfl, _, rfl⟩
  · have h1 : ∀ W, Calls Tryd.prog 87 #[.int .i64 17] W fun e w' => e = .returned (.int .u64 131072) ∧ w' = W := fun W => r2power_calls 17 (by omega) W
    have h2 : ∀ W, Calls Tryd.prog 87 #[.int .i64 15] W fun e w' => e = .returned (.int .u64 32768) ∧ w' = W := fun W => r2power_calls 15 (by omega) W
    have e : ((rotrN x 17 : Nat) : Int) = (x : Int) / 131072 + (x : Int) % 131072 * 32768 := by unfold rotrN; omega
    have E := Lib.hid e
    clear e
    go_enter Tryd.func80, Tryd.ntmps80
    go_upto_region 1 with (fail)
    go_quiet ((first | (go_at_call 87; with_reducible exact Calls.quiet_of_same (h1 _)) | (go_at_call 87; with_reducible exact Calls.quiet_of_same (h2 _))))
    go_wp2
    go_ret
    exact ⟨by rw [E.out]; rfl, _, rfl⟩
  · have h1 : ∀ W, Calls Tryd.prog 87 #[.int .i64 18] W fun e w' => e = .returned (.int .u64 262144) ∧ w' = W := fun W => r2power_calls 18 (by omega) W
    have h2 : ∀ W, Calls Tryd.prog 87 #[.int .i64 14] W fun e w' => e = .returned (.int .u64 16384) ∧ w' = W := fun W => r2power_calls 14 (by omega) W
    have e : ((rotrN x 18 : Nat) : Int) = (x : Int) / 262144 + (x : Int) % 262144 * 16384 := by unfold rotrN; omega
    have E := Lib.hid e
    clear e
    go_enter Tryd.func80, Tryd.ntmps80
    go_upto_region 1 with (fail)
    go_quiet ((first | (go_at_call 87; with_reducible exact Calls.quiet_of_same (h1 _)) | (go_at_call 87; with_reducible exact Calls.quiet_of_same (h2 _))))
    go_wp2
    go_ret
    exact ⟨by rw [E.out]; rfl, _, rfl⟩
  · have h1 : ∀ W, Calls Tryd.prog 87 #[.int .i64 19] W fun e w' => e = .returned (.int .u64 524288) ∧ w' = W := fun W => r2power_calls 19 (by omega) W
    have h2 : ∀ W, Calls Tryd.prog 87 #[.int .i64 13] W fun e w' => e = .returned (.int .u64 8192) ∧ w' = W := fun W => r2power_calls 13 (by omega) W
    have e : ((rotrN x 19 : Nat) : Int) = (x : Int) / 524288 + (x : Int) % 524288 * 8192 := by unfold rotrN; omega
    have E := Lib.hid e
    clear e
    go_enter Tryd.func80, Tryd.ntmps80
    go_upto_region 1 with (fail)
    go_quiet ((first | (go_at_call 87; with_reducible exact Calls.quiet_of_same (h1 _)) | (go_at_call 87; with_reducible exact Calls.quiet_of_same (h2 _))))
    go_wp2
    go_ret
    exact ⟨by rw [E.out]; rfl, _, rfl⟩
  · have h1 : ∀ W, Calls Tryd.prog 87 #[.int .i64 22] W fun e w' => e = .returned (.int .u64 4194304) ∧ w' = W := fun W => r2power_calls 22 (by omega) W
    have h2 : ∀ W, Calls Tryd.prog 87 #[.int .i64 10] W fun e w' => e = .returned (.int .u64 1024) ∧ w' = W := fun W => r2power_calls 10 (by omega) W
    have e : ((rotrN x 22 : Nat) : Int) = (x : Int) / 4194304 + (x : Int) % 4194304 * 1024 := by unfold rotrN; omega
    have E := Lib.hid e
    clear e
    go_enter Tryd.func80, Tryd.ntmps80
    go_upto_region 1 with (fail)
    go_quiet ((first | (go_at_call 87; with_reducible exact Calls.quiet_of_same (h1 _)) | (go_at_call 87; with_reducible exact Calls.quiet_of_same (h2 _))))
    go_wp2
    go_ret
    exact ⟨by rw [E.out]; rfl, _, rfl⟩
  · have h1 : ∀ W, Calls Tryd.prog 87 #[.int .i64 25] W fun e w' => e = .returned (.int .u64 33554432) ∧ w' = W := fun W => r2power_calls 25 (by omega) W
    have h2 : ∀ W, Calls Tryd.prog 87 #[.int .i64 7] W fun e w' => e = .returned (.int .u64 128) ∧ w' = W := fun W => r2power_calls 7 (by omega) W
    have e : ((rotrN x 25 : Nat) : Int) = (x : Int) / 33554432 + (x : Int) % 33554432 * 128 := by unfold rotrN; omega
    have E := Lib.hid e
    clear e
    go_enter Tryd.func80, Tryd.ntmps80
    go_upto_region 1 with (fail)
    go_quiet ((first | (go_at_call 87; with_reducible exact Calls.quiet_of_same (h1 _)) | (go_at_call 87; with_reducible exact Calls.quiet_of_same (h2 _))))
    go_wp2
    go_ret
    exact ⟨by rw [E.out]; rfl, _, rfl⟩
theorem r2shr10 (x : Nat) (hx : x < 4294967296) (w : World) : Calls Tryd.prog 81 #[.int .u64 x, .int .i64 10] w fun e w' => e = .returned (.int .u64 (x / 1024 : Nat)) ∧ w' = w := by
  have h1 : ∀ W, Calls Tryd.prog 87 #[.int .i64 10] W fun e w' => e = .returned (.int .u64 1024) ∧ w' = W := fun W => r2power_calls 10 (by omega) W
  have e : ((x / 1024 : Nat) : Int) = (x : Int) / 1024 := by omega
  rw [e]
  clear e
  go_enter Tryd.func81, Tryd.ntmps81
  go_wp2_with (go_at_call 87; refine (h1 _).mono ?_; rintro e w1 ⟨rfl, hw1⟩; obtain rfl : w = w1 := hw1.symm)
  go_ret
  exact ⟨rfl, rfl⟩
theorem r2shr3 (x : Nat) (hx : x < 4294967296) (w : World) : Calls Tryd.prog 81 #[.int .u64 x, .int .i64 3] w fun e w' => e = .returned (.int .u64 (x / 8 : Nat)) ∧ w' = w := by
  have h1 : ∀ W, Calls Tryd.prog 87 #[.int .i64 3] W fun e w' => e = .returned (.int .u64 8) ∧ w' = W := fun W => r2power_calls 3 (by omega) W
  have e : ((x / 8 : Nat) : Int) = (x : Int) / 8 := by omega
  rw [e]
  clear e
  go_enter Tryd.func81, Tryd.ntmps81
  go_wp2_with (go_at_call 87; refine (h1 _).mono ?_; rintro e w1 ⟨rfl, hw1⟩; obtain rfl : w = w1 := hw1.symm)
  go_ret
  exact ⟨rfl, rfl⟩
/-! Bit by bit. -/
set_option maxRecDepth 100000 in
set_option maxHeartbeats 2000000 in
theorem r2xor_calls (x y z : Nat) (hx : x < 4294967296) (hy : y < 4294967296) (hz : z < 4294967296) (w : World) : Calls Tryd.prog 79 #[.int .u64 x, .int .u64 y, .int .u64 z] w fun e w' => e = .returned (.int .u64 (xor3 x y z)) ∧ w' = w := by
  have hR := xor3_lt hx hy hz
  generalize hRe : xor3 x y z = R at *
  have HR : Shut (xor3 x y z = R) := ⟨hRe⟩
  clear hRe
  go_enter Tryd.func79, Tryd.ntmps79
  go_wp2
  go_loopg [0, 1, 2, 7, 8, 9] 32 (fun g xx yy zz oo pp ii wx => ∃ i x' y' z' o : Nat, i ≤ 32 ∧ g = 32 - i ∧ xx = .int .u64 x' ∧ yy = .int .u64 y' ∧ zz = .int .u64 z' ∧ oo = .int .u64 o ∧ pp = .int .u64 (2 ^ i : Nat) ∧ ii = .int .i64 i ∧
    x' < 2 ^ (32 - i) ∧ y' < 2 ^ (32 - i) ∧ z' < 2 ^ (32 - i) ∧ o + 2 ^ i * xor3 x' y' z' = R ∧ wx = w)
  case atStart => exact ⟨0, x, y, z, 0, by omega, by omega, rfl, rfl, rfl, rfl, rfl, rfl, hx, hy, hz, by rw [HR.out]; omega, rfl⟩
  case round =>
    clear hx hy hz
    obtain ⟨i, x', y', z', o, hi, hg, rfl, rfl, rfl, rfl, rfl, rfl, hx, hy, hz, hsum, hw⟩ := hrel
    obtain rfl : w = wr := hw.symm
    by_cases hlt : i < 32
    · have hlt' := hlt
      have hp := Nat.pow_le_pow_right (show 0 < 2 from by omega) (show i ≤ 31 from by omega)
      have hs : 2 ^ (i + 1) = 2 * 2 ^ i := by rw [Nat.pow_succ]; omega
      have hd : 2 ^ (32 - i) = 2 * 2 ^ (32 - (i + 1)) := by rw [show 32 - i = (32 - (i + 1)) + 1 from by omega, Nat.pow_succ]; omega
      have ht := xor3_two x' y' z'
      have hX : 2 ^ (i + 1) * xor3 (x' / 2) (y' / 2) (z' / 2) = 2 * (2 ^ i * xor3 (x' / 2) (y' / 2) (z' / 2)) := by rw [hs, Nat.mul_assoc]
      have x1 : x' < 4294967296 := Nat.lt_of_lt_of_le hx (Nat.pow_le_pow_right (show 0 < 2 from by omega) (show 32 - i ≤ 32 from by omega))
      have y1 : y' < 4294967296 := Nat.lt_of_lt_of_le hy (Nat.pow_le_pow_right (show 0 < 2 from by omega) (show 32 - i ≤ 32 from by omega))
      have z1 : z' < 4294967296 := Nat.lt_of_lt_of_le hz (Nat.pow_le_pow_right (show 0 < 2 from by omega) (show 32 - i ≤ 32 from by omega))
      have hx2 : x' / 2 < 2 ^ (32 - (i + 1)) := by omega
      have hy2 : y' / 2 < 2 ^ (32 - (i + 1)) := by omega
      have hz2 : z' / 2 < 2 ^ (32 - (i + 1)) := by omega
      have HB := Lib.hid (And.intro hx2 (And.intro hy2 hz2))
      rw [ht, Nat.mul_add, Nat.mul_left_comm] at hsum
      clear hx hy hz hd ht hx2 hy2 hz2
      have hmx : x' % 2 = 0 ∨ x' % 2 = 1 := by omega
      have hmy : y' % 2 = 0 ∨ y' % 2 = 1 := by omega
      have hmz : z' % 2 = 0 ∨ z' % 2 = 1 := by omega
      have HG := Lib.hid hg
      clear hg
      generalize hP : 2 ^ i = P at *
      have HP : Shut (2 ^ i = P) := ⟨hP⟩
      clear hP
      have hp2 : P ≤ 2147483648 := hp
      generalize hFX : P * xor3 (x' / 2) (y' / 2) (z' / 2) = F at *
      have HX : Shut (2 ^ (i + 1) * xor3 (x' / 2) (y' / 2) (z' / 2) = 2 * F) := ⟨hX⟩
      have HS : Shut (2 ^ (i + 1) = 2 * P) := ⟨hs⟩
      clear hX hFX hs
      rcases hmx with ex | ex <;> rcases hmy with ey | ey <;> rcases hmz with ez | ez
      all_goals
        rw [ex, ey, ez] at hsum
        have qx : (x' : Int) % 2 = ((x' % 2 : Nat) : Int) := by omega
        have qy : (y' : Int) % 2 = ((y' % 2 : Nat) : Int) := by omega
        have qz : (z' : Int) % 2 = ((z' % 2 : Nat) : Int) := by omega
        rw [ex] at qx
        rw [ey] at qy
        rw [ez] at qz
        simp only [Nat.reduceAdd, Nat.reduceMod, Nat.reduceDiv, if_true, Nat.zero_ne_one, if_false, Nat.mul_zero, Nat.mul_one, Nat.add_zero] at hsum
        have ho : o ≤ 4294967295 := by omega
        have hoP : o + P ≤ 8589934592 := by omega
        have HSUM := Lib.hid hsum
        clear hsum ex ey ez
        go_wp2
        go_roundg (32 - (i + 1))
        case measure => rw [HG.out]; omega
        case rel => first
          | exact ⟨i + 1, x' / 2, y' / 2, z' / 2, o, by omega, rfl, by go_num, by go_num, by go_num, by go_num, by rw [HS.out]; go_num, by go_num, HB.out.1, HB.out.2.1, HB.out.2.2, by rw [HX.out]; have := HSUM.out; omega, rfl⟩
          | exact ⟨i + 1, x' / 2, y' / 2, z' / 2, o + P, by omega, rfl, by go_num, by go_num, by go_num, by go_num, by rw [HS.out]; go_num, by go_num, HB.out.1, HB.out.2.1, HB.out.2.2, by rw [HX.out]; have := HSUM.out; omega, rfl⟩
    · obtain rfl : i = 32 := by omega
      have x0 : x' = 0 := by simpa using hx
      have y0 : y' = 0 := by simpa using hy
      have z0 : z' = 0 := by simpa using hz
      subst x0 y0 z0
      rw [xor3_zero, Nat.mul_zero, Nat.add_zero] at hsum
      subst hsum
      clear hx hy hz hg
      go_wp2
      go_ret
      exact ⟨rfl, rfl⟩
set_option maxRecDepth 100000 in
set_option maxHeartbeats 2000000 in
theorem r2ch_calls (x y z : Nat) (hx : x < 4294967296) (hy : y < 4294967296) (hz : z < 4294967296) (w : World) : Calls Tryd.prog 82 #[.int .u64 x, .int .u64 y, .int .u64 z] w fun e w' => e = .returned (.int .u64 (chN x y z)) ∧ w' = w := by
  have hR := ch_lt hx hy hz
  generalize hRe : chN x y z = R at *
  have HR : Shut (chN x y z = R) := ⟨hRe⟩
  clear hRe
  go_enter Tryd.func82, Tryd.ntmps82
  go_wp2
  go_loopg [0, 1, 2, 7, 8, 9] 32 (fun g xx yy zz oo pp ii wx => ∃ i x' y' z' o : Nat, i ≤ 32 ∧ g = 32 - i ∧ xx = .int .u64 x' ∧ yy = .int .u64 y' ∧ zz = .int .u64 z' ∧ oo = .int .u64 o ∧ pp = .int .u64 (2 ^ i : Nat) ∧ ii = .int .i64 i ∧
    x' < 2 ^ (32 - i) ∧ y' < 2 ^ (32 - i) ∧ z' < 2 ^ (32 - i) ∧ o + 2 ^ i * chN x' y' z' = R ∧ wx = w)
  case atStart => exact ⟨0, x, y, z, 0, by omega, by omega, rfl, rfl, rfl, rfl, rfl, rfl, hx, hy, hz, by rw [HR.out]; omega, rfl⟩
  case round =>
    clear hx hy hz
    obtain ⟨i, x', y', z', o, hi, hg, rfl, rfl, rfl, rfl, rfl, rfl, hx, hy, hz, hsum, hw⟩ := hrel
    obtain rfl : w = wr := hw.symm
    by_cases hlt : i < 32
    · have hlt' := hlt
      have hp := Nat.pow_le_pow_right (show 0 < 2 from by omega) (show i ≤ 31 from by omega)
      have hs : 2 ^ (i + 1) = 2 * 2 ^ i := by rw [Nat.pow_succ]; omega
      have hd : 2 ^ (32 - i) = 2 * 2 ^ (32 - (i + 1)) := by rw [show 32 - i = (32 - (i + 1)) + 1 from by omega, Nat.pow_succ]; omega
      have ht := ch_two x' y' z'
      have hX : 2 ^ (i + 1) * chN (x' / 2) (y' / 2) (z' / 2) = 2 * (2 ^ i * chN (x' / 2) (y' / 2) (z' / 2)) := by rw [hs, Nat.mul_assoc]
      have x1 : x' < 4294967296 := Nat.lt_of_lt_of_le hx (Nat.pow_le_pow_right (show 0 < 2 from by omega) (show 32 - i ≤ 32 from by omega))
      have y1 : y' < 4294967296 := Nat.lt_of_lt_of_le hy (Nat.pow_le_pow_right (show 0 < 2 from by omega) (show 32 - i ≤ 32 from by omega))
      have z1 : z' < 4294967296 := Nat.lt_of_lt_of_le hz (Nat.pow_le_pow_right (show 0 < 2 from by omega) (show 32 - i ≤ 32 from by omega))
      have hx2 : x' / 2 < 2 ^ (32 - (i + 1)) := by omega
      have hy2 : y' / 2 < 2 ^ (32 - (i + 1)) := by omega
      have hz2 : z' / 2 < 2 ^ (32 - (i + 1)) := by omega
      have HB := Lib.hid (And.intro hx2 (And.intro hy2 hz2))
      rw [ht, Nat.mul_add, Nat.mul_left_comm] at hsum
      clear hx hy hz hd ht hx2 hy2 hz2
      have hmx : x' % 2 = 0 ∨ x' % 2 = 1 := by omega
      have hmy : y' % 2 = 0 ∨ y' % 2 = 1 := by omega
      have hmz : z' % 2 = 0 ∨ z' % 2 = 1 := by omega
      have HG := Lib.hid hg
      clear hg
      generalize hP : 2 ^ i = P at *
      have HP : Shut (2 ^ i = P) := ⟨hP⟩
      clear hP
      have hp2 : P ≤ 2147483648 := hp
      generalize hFX : P * chN (x' / 2) (y' / 2) (z' / 2) = F at *
      have HX : Shut (2 ^ (i + 1) * chN (x' / 2) (y' / 2) (z' / 2) = 2 * F) := ⟨hX⟩
      have HS : Shut (2 ^ (i + 1) = 2 * P) := ⟨hs⟩
      clear hX hFX hs
      rcases hmx with ex | ex <;> rcases hmy with ey | ey <;> rcases hmz with ez | ez
      all_goals
        rw [ex, ey, ez] at hsum
        have qx : (x' : Int) % 2 = ((x' % 2 : Nat) : Int) := by omega
        have qy : (y' : Int) % 2 = ((y' % 2 : Nat) : Int) := by omega
        have qz : (z' : Int) % 2 = ((z' % 2 : Nat) : Int) := by omega
        rw [ex] at qx
        rw [ey] at qy
        rw [ez] at qz
        simp only [Nat.reduceAdd, Nat.reduceMod, Nat.reduceDiv, if_true, Nat.zero_ne_one, if_false, Nat.mul_zero, Nat.mul_one, Nat.add_zero] at hsum
        have ho : o ≤ 4294967295 := by omega
        have hoP : o + P ≤ 8589934592 := by omega
        have HSUM := Lib.hid hsum
        clear hsum ex ey ez
        go_wp2
        go_roundg (32 - (i + 1))
        case measure => rw [HG.out]; omega
        case rel => first
          | exact ⟨i + 1, x' / 2, y' / 2, z' / 2, o, by omega, rfl, by go_num, by go_num, by go_num, by go_num, by rw [HS.out]; go_num, by go_num, HB.out.1, HB.out.2.1, HB.out.2.2, by rw [HX.out]; have := HSUM.out; omega, rfl⟩
          | exact ⟨i + 1, x' / 2, y' / 2, z' / 2, o + P, by omega, rfl, by go_num, by go_num, by go_num, by go_num, by rw [HS.out]; go_num, by go_num, HB.out.1, HB.out.2.1, HB.out.2.2, by rw [HX.out]; have := HSUM.out; omega, rfl⟩
    · obtain rfl : i = 32 := by omega
      have x0 : x' = 0 := by simpa using hx
      have y0 : y' = 0 := by simpa using hy
      have z0 : z' = 0 := by simpa using hz
      subst x0 y0 z0
      rw [ch_zero, Nat.mul_zero, Nat.add_zero] at hsum
      subst hsum
      clear hx hy hz hg
      go_wp2
      go_ret
      exact ⟨rfl, rfl⟩
set_option maxRecDepth 100000 in
set_option maxHeartbeats 2000000 in
theorem r2maj_calls (x y z : Nat) (hx : x < 4294967296) (hy : y < 4294967296) (hz : z < 4294967296) (w : World) : Calls Tryd.prog 83 #[.int .u64 x, .int .u64 y, .int .u64 z] w fun e w' => e = .returned (.int .u64 (majN x y z)) ∧ w' = w := by
  have hR := maj_lt hx hy hz
  generalize hRe : majN x y z = R at *
  have HR : Shut (majN x y z = R) := ⟨hRe⟩
  clear hRe
  go_enter Tryd.func83, Tryd.ntmps83
  go_wp2
  go_loopg [0, 1, 2, 7, 8, 9] 32 (fun g xx yy zz oo pp ii wx => ∃ i x' y' z' o : Nat, i ≤ 32 ∧ g = 32 - i ∧ xx = .int .u64 x' ∧ yy = .int .u64 y' ∧ zz = .int .u64 z' ∧ oo = .int .u64 o ∧ pp = .int .u64 (2 ^ i : Nat) ∧ ii = .int .i64 i ∧
    x' < 2 ^ (32 - i) ∧ y' < 2 ^ (32 - i) ∧ z' < 2 ^ (32 - i) ∧ o + 2 ^ i * majN x' y' z' = R ∧ wx = w)
  case atStart => exact ⟨0, x, y, z, 0, by omega, by omega, rfl, rfl, rfl, rfl, rfl, rfl, hx, hy, hz, by rw [HR.out]; omega, rfl⟩
  case round =>
    clear hx hy hz
    obtain ⟨i, x', y', z', o, hi, hg, rfl, rfl, rfl, rfl, rfl, rfl, hx, hy, hz, hsum, hw⟩ := hrel
    obtain rfl : w = wr := hw.symm
    by_cases hlt : i < 32
    · have hlt' := hlt
      have hp := Nat.pow_le_pow_right (show 0 < 2 from by omega) (show i ≤ 31 from by omega)
      have hs : 2 ^ (i + 1) = 2 * 2 ^ i := by rw [Nat.pow_succ]; omega
      have hd : 2 ^ (32 - i) = 2 * 2 ^ (32 - (i + 1)) := by rw [show 32 - i = (32 - (i + 1)) + 1 from by omega, Nat.pow_succ]; omega
      have ht := maj_two x' y' z'
      have hX : 2 ^ (i + 1) * majN (x' / 2) (y' / 2) (z' / 2) = 2 * (2 ^ i * majN (x' / 2) (y' / 2) (z' / 2)) := by rw [hs, Nat.mul_assoc]
      have x1 : x' < 4294967296 := Nat.lt_of_lt_of_le hx (Nat.pow_le_pow_right (show 0 < 2 from by omega) (show 32 - i ≤ 32 from by omega))
      have y1 : y' < 4294967296 := Nat.lt_of_lt_of_le hy (Nat.pow_le_pow_right (show 0 < 2 from by omega) (show 32 - i ≤ 32 from by omega))
      have z1 : z' < 4294967296 := Nat.lt_of_lt_of_le hz (Nat.pow_le_pow_right (show 0 < 2 from by omega) (show 32 - i ≤ 32 from by omega))
      have hx2 : x' / 2 < 2 ^ (32 - (i + 1)) := by omega
      have hy2 : y' / 2 < 2 ^ (32 - (i + 1)) := by omega
      have hz2 : z' / 2 < 2 ^ (32 - (i + 1)) := by omega
      have HB := Lib.hid (And.intro hx2 (And.intro hy2 hz2))
      rw [ht, Nat.mul_add, Nat.mul_left_comm] at hsum
      clear hx hy hz hd ht hx2 hy2 hz2
      have hmx : x' % 2 = 0 ∨ x' % 2 = 1 := by omega
      have hmy : y' % 2 = 0 ∨ y' % 2 = 1 := by omega
      have hmz : z' % 2 = 0 ∨ z' % 2 = 1 := by omega
      have HG := Lib.hid hg
      clear hg
      generalize hP : 2 ^ i = P at *
      have HP : Shut (2 ^ i = P) := ⟨hP⟩
      clear hP
      have hp2 : P ≤ 2147483648 := hp
      generalize hFX : P * majN (x' / 2) (y' / 2) (z' / 2) = F at *
      have HX : Shut (2 ^ (i + 1) * majN (x' / 2) (y' / 2) (z' / 2) = 2 * F) := ⟨hX⟩
      have HS : Shut (2 ^ (i + 1) = 2 * P) := ⟨hs⟩
      clear hX hFX hs
      rcases hmx with ex | ex <;> rcases hmy with ey | ey <;> rcases hmz with ez | ez
      all_goals
        rw [ex, ey, ez] at hsum
        have qx : (x' : Int) % 2 = ((x' % 2 : Nat) : Int) := by omega
        have qy : (y' : Int) % 2 = ((y' % 2 : Nat) : Int) := by omega
        have qz : (z' : Int) % 2 = ((z' % 2 : Nat) : Int) := by omega
        rw [ex] at qx
        rw [ey] at qy
        rw [ez] at qz
        simp only [Nat.reduceAdd, Nat.reduceMod, Nat.reduceDiv, if_true, Nat.zero_ne_one, if_false, Nat.mul_zero, Nat.mul_one, Nat.add_zero] at hsum
        have ho : o ≤ 4294967295 := by omega
        have hoP : o + P ≤ 8589934592 := by omega
        have HSUM := Lib.hid hsum
        clear hsum ex ey ez
        go_wp2
        go_roundg (32 - (i + 1))
        case measure => rw [HG.out]; omega
        case rel => first
          | exact ⟨i + 1, x' / 2, y' / 2, z' / 2, o, by omega, rfl, by go_num, by go_num, by go_num, by go_num, by rw [HS.out]; go_num, by go_num, HB.out.1, HB.out.2.1, HB.out.2.2, by rw [HX.out]; have := HSUM.out; omega, rfl⟩
          | exact ⟨i + 1, x' / 2, y' / 2, z' / 2, o + P, by omega, rfl, by go_num, by go_num, by go_num, by go_num, by rw [HS.out]; go_num, by go_num, HB.out.1, HB.out.2.1, HB.out.2.2, by rw [HX.out]; have := HSUM.out; omega, rfl⟩
    · obtain rfl : i = 32 := by omega
      have x0 : x' = 0 := by simpa using hx
      have y0 : y' = 0 := by simpa using hy
      have z0 : z' = 0 := by simpa using hz
      subst x0 y0 z0
      rw [maj_zero, Nat.mul_zero, Nat.add_zero] at hsum
      subst hsum
      clear hx hy hz hg
      go_wp2
      go_ret
      exact ⟨rfl, rfl⟩
end Go.Proofs.YtogkfjljdmbogaaDoor

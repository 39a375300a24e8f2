/- How many bits are set, as the library counts them. Nothing of a program. -/
import Derived.WalkKit
namespace Go.Proofs.YtnodjlgihhinpaaDoor
set_option linter.unusedVariables false
set_option linter.unusedSimpArgs false

/-- How many bits are set. -/
def popc (n : Nat) : Nat := if h : n = 0 then 0 else n % 2 + popc (n / 2)
termination_by n
decreasing_by omega
theorem popc_zero : popc 0 = 0 := by rw [popc]; rfl
theorem popc_two (n : Nat) : popc n = n % 2 + popc (n / 2) := by
  by_cases h : n = 0
  · subst h; simp [popc_zero]
  · rw [popc, dif_neg h]
theorem popc_bit (n b : Nat) (hb : b < 2) : popc (2 * n + b) = popc n + b := by
  rw [popc_two, show (2 * n + b) % 2 = b from by omega, show (2 * n + b) / 2 = n from by omega]
  omega
def popB (b : Nat) : Nat := b % 2 + b / 2 % 2 + b / 4 % 2 + b / 8 % 2 + b / 16 % 2 + b / 32 % 2 + b / 64 % 2 + b / 128 % 2
theorem popB_le (b : Nat) : popB b ≤ 8 := by unfold popB; omega
theorem popc_eight (x : Nat) : popc x = x % 2 + x / 2 % 2 + x / 4 % 2 + x / 8 % 2 + x / 16 % 2 + x / 32 % 2 + x / 64 % 2 + x / 128 % 2 + popc (x / 256) := by
  have d2 : x / 2 / 2 = x / 4 := by rw [Nat.div_div_eq_div_mul]
  have d3 : x / 2 / 2 / 2 = x / 8 := by rw [Nat.div_div_eq_div_mul, Nat.div_div_eq_div_mul]
  have d4 : x / 2 / 2 / 2 / 2 = x / 16 := by rw [Nat.div_div_eq_div_mul, Nat.div_div_eq_div_mul, Nat.div_div_eq_div_mul]
  have d5 : x / 2 / 2 / 2 / 2 / 2 = x / 32 := by rw [Nat.div_div_eq_div_mul, Nat.div_div_eq_div_mul, Nat.div_div_eq_div_mul, Nat.div_div_eq_div_mul]
  have d6 : x / 2 / 2 / 2 / 2 / 2 / 2 = x / 64 := by rw [Nat.div_div_eq_div_mul, Nat.div_div_eq_div_mul, Nat.div_div_eq_div_mul, Nat.div_div_eq_div_mul, Nat.div_div_eq_div_mul]
  have d7 : x / 2 / 2 / 2 / 2 / 2 / 2 / 2 = x / 128 := by rw [Nat.div_div_eq_div_mul, Nat.div_div_eq_div_mul, Nat.div_div_eq_div_mul, Nat.div_div_eq_div_mul, Nat.div_div_eq_div_mul, Nat.div_div_eq_div_mul]
  have d8 : x / 2 / 2 / 2 / 2 / 2 / 2 / 2 / 2 = x / 256 := by rw [Nat.div_div_eq_div_mul, Nat.div_div_eq_div_mul, Nat.div_div_eq_div_mul, Nat.div_div_eq_div_mul, Nat.div_div_eq_div_mul, Nat.div_div_eq_div_mul, Nat.div_div_eq_div_mul]
  have h1 := popc_two (x)
  have h2 := popc_two (x / 2)
  have h3 := popc_two (x / 2 / 2)
  have h4 := popc_two (x / 2 / 2 / 2)
  have h5 := popc_two (x / 2 / 2 / 2 / 2)
  have h6 := popc_two (x / 2 / 2 / 2 / 2 / 2)
  have h7 := popc_two (x / 2 / 2 / 2 / 2 / 2 / 2)
  have h8 := popc_two (x / 2 / 2 / 2 / 2 / 2 / 2 / 2)
  rw [d8] at h8
  rw [d7] at h7 h8
  rw [d6] at h6 h7
  rw [d5] at h5 h6
  rw [d4] at h4 h5
  rw [d3] at h3 h4
  rw [d2] at h2 h3
  clear d2 d3 d4 d5 d6 d7 d8
  rw [h1, h2, h3, h4, h5, h6, h7, h8]
  ac_rfl
theorem popc_byte (y b : Nat) (hb : b < 256) : popc (256 * y + b) = popc y + popB b := by
  rw [popc_eight, show (256 * y + b) / 256 = y from by omega, show (256 * y + b) % 2 = b % 2 from by omega, show (256 * y + b) / 2 = 128 * y + b / 2 from by omega, show (256 * y + b) / 4 = 64 * y + b / 4 from by omega,
    show (256 * y + b) / 8 = 32 * y + b / 8 from by omega, show (256 * y + b) / 16 = 16 * y + b / 16 from by omega, show (256 * y + b) / 32 = 8 * y + b / 32 from by omega,
    show (256 * y + b) / 64 = 4 * y + b / 64 from by omega, show (256 * y + b) / 128 = 2 * y + b / 128 from by omega,
    show (128 * y + b / 2) % 2 = b / 2 % 2 from by omega, show (64 * y + b / 4) % 2 = b / 4 % 2 from by omega, show (32 * y + b / 8) % 2 = b / 8 % 2 from by omega, show (16 * y + b / 16) % 2 = b / 16 % 2 from by omega,
    show (8 * y + b / 32) % 2 = b / 32 % 2 from by omega, show (4 * y + b / 64) % 2 = b / 64 % 2 from by omega, show (2 * y + b / 128) % 2 = b / 128 % 2 from by omega]
  unfold popB
  ac_rfl
theorem popc_le (n k : Nat) (h : n < 2 ^ k) : popc n ≤ k := by
  induction k generalizing n with
  | zero => obtain rfl : n = 0 := by simpa using h
            rw [popc_zero]; exact Nat.le_refl _
  | succ k ih =>
    rw [popc_two]
    have := ih (n / 2) (by rw [Nat.pow_succ] at h; omega)
    omega

/-! Byte by byte. -/
theorem and_split (a m M l : Nat) (hl : l < 256) (hm : m = 256 * M + l) : a &&& m = 256 * ((a / 256) &&& M) + ((a % 256) &&& l) := by
  subst hm
  have h1 : (a &&& (256 * M + l)) / 256 = (a / 256) &&& M := by
    have := @Nat.and_div_two_pow a (256 * M + l) 8
    rw [show (2 : Nat) ^ 8 = 256 from rfl] at this
    rw [this, show (256 * M + l) / 256 = M from by omega]
  have h2 : (a &&& (256 * M + l)) % 256 = (a % 256) &&& l := by
    have := @Nat.and_mod_two_pow a (256 * M + l) 8
    rw [show (2 : Nat) ^ 8 = 256 from rfl] at this
    rw [this, show (256 * M + l) % 256 = l from by omega]
  omega
def msk (c : Nat) : Nat → Nat
  | 0 => 0
  | n + 1 => 256 * msk c n + c
def st1 (m x : Nat) : Nat := (x / 2 &&& m) + (x &&& m)
def st2 (m x : Nat) : Nat := (x / 4 &&& m) + (x &&& m)
def st3 (m x : Nat) : Nat := (x / 16 + x) &&& m
theorem low1 : ∀ b, b < 256 → ∀ c, c < 2 → ((b / 2 + 128 * c) &&& 85) = (b / 2 &&& 85) := by decide +kernel
theorem low2 : ∀ b, b < 256 → ∀ c, c < 4 → ((b / 4 + 64 * c) &&& 51) = (b / 4 &&& 51) := by decide +kernel
theorem bnd1 : ∀ b, b < 256 → st1 85 b < 256 := by decide +kernel
theorem bnd2 : ∀ b, b < 256 → st2 51 b < 256 ∧ st2 51 b % 16 ≤ 6 ∧ st2 51 b / 16 ≤ 6 := by decide +kernel
theorem all3 : ∀ b, b < 256 → st3 15 (st2 51 (st1 85 b)) = popB b := by decide +kernel
theorem st1_step (M y b : Nat) (hb : b < 256) : st1 (256 * M + 85) (256 * y + b) = 256 * st1 M y + st1 85 b := by
  unfold st1
  rw [and_split ((256 * y + b) / 2) _ M 85 (by omega) rfl, and_split (256 * y + b) _ M 85 (by omega) rfl,
    show (256 * y + b) / 2 / 256 = y / 2 from by omega, show (256 * y + b) / 256 = y from by omega, show (256 * y + b) % 256 = b from by omega,
    show (256 * y + b) / 2 % 256 = b / 2 + 128 * (y % 2) from by omega, low1 b hb (y % 2) (by omega)]
  omega
theorem st2_step (M y b : Nat) (hb : b < 256) : st2 (256 * M + 51) (256 * y + b) = 256 * st2 M y + st2 51 b := by
  unfold st2
  rw [and_split ((256 * y + b) / 4) _ M 51 (by omega) rfl, and_split (256 * y + b) _ M 51 (by omega) rfl,
    show (256 * y + b) / 4 / 256 = y / 4 from by omega, show (256 * y + b) / 256 = y from by omega, show (256 * y + b) % 256 = b from by omega,
    show (256 * y + b) / 4 % 256 = b / 4 + 64 * (y % 4) from by omega, low2 b hb (y % 4) (by omega)]
  omega
theorem st3_step (M y b : Nat) (hb : b < 256) (h1 : b % 16 ≤ 6) (h2 : b / 16 ≤ 6) (hy : y % 16 ≤ 6) : st3 (256 * M + 15) (256 * y + b) = 256 * st3 M y + st3 15 b := by
  unfold st3
  rw [and_split _ _ M 15 (by omega) rfl, show ((256 * y + b) / 16 + (256 * y + b)) / 256 = y / 16 + y from by omega]
  refine congrArg (fun z => 256 * ((y / 16 + y) &&& M) + z) ?_
  have e1 := Nat.and_two_pow_sub_one_eq_mod (((256 * y + b) / 16 + (256 * y + b)) % 256) 4
  have e2 := Nat.and_two_pow_sub_one_eq_mod (b / 16 + b) 4
  rw [show (2 : Nat) ^ 4 - 1 = 15 from rfl, show (2 : Nat) ^ 4 = 16 from rfl] at e1 e2
  rw [e1, e2, show (256 * y + b) / 16 + (256 * y + b) = 272 * y + (b / 16 + b) from by omega]
  generalize b / 16 + b = z
  clear e1 e2
  omega
theorem st2_nib (M : Nat) : ∀ y, (∀ n, M = msk 51 n → st2 M y % 16 ≤ 6) := by
  intro y n hM
  subst hM
  cases n with
  | zero => simp [msk, st2]
  | succ n =>
    have h := st2_step (msk 51 n) (y / 256) (y % 256) (Nat.mod_lt _ (by decide))
    rw [show 256 * (y / 256) + y % 256 = y from by omega] at h
    have hb := bnd2 (y % 256) (Nat.mod_lt _ (by decide))
    show st2 (256 * msk 51 n + 51) y % 16 ≤ 6
    omega
/-- The sums of the bytes, as bytes. -/
def bytesum : Nat → Nat → Nat
  | 0, _ => 0
  | n + 1, x => 256 * bytesum n (x / 256) + popB (x % 256)
theorem st_all : ∀ (n x : Nat), x < 256 ^ n → st3 (msk 15 n) (st2 (msk 51 n) (st1 (msk 85 n) x)) = bytesum n x
  | 0, x, h => by
    obtain rfl : x = 0 := by simpa using h
    rfl
  | n + 1, x, h => by
    have hb : x % 256 < 256 := Nat.mod_lt _ (by decide)
    have hx : 256 * (x / 256) + x % 256 = x := by omega
    have h1 := st1_step (msk 85 n) (x / 256) (x % 256) hb
    rw [hx] at h1
    have h2 := st2_step (msk 51 n) (st1 (msk 85 n) (x / 256)) (st1 85 (x % 256)) (bnd1 _ hb)
    have hb2 := bnd2 (st1 85 (x % 256)) (bnd1 _ hb)
    have h3 := st3_step (msk 15 n) (st2 (msk 51 n) (st1 (msk 85 n) (x / 256))) (st2 51 (st1 85 (x % 256))) hb2.1 hb2.2.1 hb2.2.2 (st2_nib _ _ n rfl)
    have ih := st_all n (x / 256) (by rw [Nat.pow_succ] at h; omega)
    show st3 (256 * msk 15 n + 15) (st2 (256 * msk 51 n + 51) (st1 (256 * msk 85 n + 85) x)) = 256 * bytesum n (x / 256) + popB (x % 256)
    rw [h1, h2, h3, ih, all3 _ hb]
theorem popc_bytes (x : Nat) (h : x < 256 ^ 8) : ∃ p0 p1 p2 p3 p4 p5 p6 p7 : Nat, p0 ≤ 8 ∧ p1 ≤ 8 ∧ p2 ≤ 8 ∧ p3 ≤ 8 ∧ p4 ≤ 8 ∧ p5 ≤ 8 ∧ p6 ≤ 8 ∧ p7 ≤ 8 ∧ popc x = p0 + p1 + p2 + p3 + p4 + p5 + p6 + p7 ∧
    bytesum 8 x = p0 + 256 * p1 + 65536 * p2 + 16777216 * p3 + 4294967296 * p4 + 1099511627776 * p5 + 281474976710656 * p6 + 72057594037927936 * p7 := by
  have step : ∀ z, popc z = popc (z / 256) + popB (z % 256) := fun z => by
    have := popc_byte (z / 256) (z % 256) (Nat.mod_lt _ (by decide))
    rwa [show 256 * (z / 256) + z % 256 = z from by omega] at this
  refine ⟨popB (x % 256), popB (x / 256 % 256), popB (x / 256 / 256 % 256), popB (x / 256 / 256 / 256 % 256), popB (x / 256 / 256 / 256 / 256 % 256), popB (x / 256 / 256 / 256 / 256 / 256 % 256), popB (x / 256 / 256 / 256 / 256 / 256 / 256 % 256), popB (x / 256 / 256 / 256 / 256 / 256 / 256 / 256 % 256), popB_le _, popB_le _, popB_le _, popB_le _, popB_le _, popB_le _, popB_le _, popB_le _, ?_, ?_⟩
  · rw [step x, step (x / 256), step (x / 256 / 256), step (x / 256 / 256 / 256), step (x / 256 / 256 / 256 / 256), step (x / 256 / 256 / 256 / 256 / 256), step (x / 256 / 256 / 256 / 256 / 256 / 256), step (x / 256 / 256 / 256 / 256 / 256 / 256 / 256),
      show x / 256 / 256 / 256 / 256 / 256 / 256 / 256 / 256 = 0 from by omega, popc_zero]
    omega
  · simp only [bytesum]
    omega
theorem ones_bnd (X s4 s5 s6 : Nat) (hX : X < 1000000000000000000) (h4 : s4 = X + X / 256) (h5 : s5 = s4 + s4 / 65536) (h6 : s6 = s5 + s5 / 4294967296) : s6 < 9223372036854775808 ∧ s5 < 9223372036854775808 ∧ s4 < 9223372036854775808 := by
  have l4 : s4 < 1100000000000000000 := by omega
  have l5 : s5 < 1200000000000000000 := by clear h4 h6; omega
  have l6 : s6 < 1300000000000000000 := by clear h4 h5; omega
  exact ⟨by omega, by omega, by omega⟩
theorem ones_fin (x s4 s5 s6 : Nat) (h : x < 256 ^ 8) (h4 : s4 = bytesum 8 x + bytesum 8 x / 256) (h5 : s5 = s4 + s4 / 65536) (h6 : s6 = s5 + s5 / 4294967296) : s6 % 128 = popc x ∧ s6 < 9223372036854775808 ∧ s5 < 9223372036854775808 ∧ s4 < 9223372036854775808 ∧ bytesum 8 x < 1000000000000000000 := by
  obtain ⟨p0, p1, p2, p3, p4, p5, p6, p7, b0, b1, b2, b3, b4, b5, b6, b7, hp, hb⟩ := popc_bytes x h
  clear h
  generalize bytesum 8 x = X at *
  generalize popc x = P at *
  have lX : X < 1000000000000000000 := by omega
  obtain ⟨L6, L5, L4⟩ := ones_bnd X s4 s5 s6 lX h4 h5 h6
  refine ⟨?_, L6, L5, L4, lX⟩
  clear L6 L5 L4 lX
  have d4 : X / 256 = p1 + 256 * p2 + 65536 * p3 + 16777216 * p4 + 4294967296 * p5 + 1099511627776 * p6 + 281474976710656 * p7 := by clear h4 h5 h6 hp; omega
  rw [d4] at h4
  clear d4
  have e4 : s4 = (p0 + p1) + 256 * (p1 + p2) + 65536 * ((p2 + p3) + 256 * (p3 + p4) + 65536 * (p4 + p5) + 16777216 * (p5 + p6) + 4294967296 * (p6 + p7) + 1099511627776 * p7) := by
    clear b0 b1 b2 b3 b4 b5 b6 b7 hp h5 h6
    omega
  clear h4 hb
  have d5 : s4 / 65536 = (p2 + p3) + 256 * (p3 + p4) + 65536 * (p4 + p5) + 16777216 * (p5 + p6) + 4294967296 * (p6 + p7) + 1099511627776 * p7 := by
    rw [e4, Nat.add_mul_div_left _ _ (by decide), Nat.div_eq_of_lt (by omega), Nat.zero_add]
  rw [d5] at h5
  clear d5
  have e5 : s5 = ((p0 + p1 + p2 + p3) + 256 * (p1 + p2 + p3 + p4) + 65536 * (p2 + p3 + p4 + p5) + 16777216 * (p3 + p4 + p5 + p6)) + 4294967296 * ((p4 + p5 + p6 + p7) + 256 * (p5 + p6 + p7) + 65536 * (p6 + p7) + 16777216 * p7) := by
    clear b0 b1 b2 b3 b4 b5 b6 b7 hp h6
    omega
  clear h5 e4
  have d6 : s5 / 4294967296 = (p4 + p5 + p6 + p7) + 256 * (p5 + p6 + p7) + 65536 * (p6 + p7) + 16777216 * p7 := by
    rw [e5, Nat.add_mul_div_left _ _ (by decide), Nat.div_eq_of_lt (by omega), Nat.zero_add]
  rw [d6] at h6
  clear d6
  have e6 : s6 = (p0 + p1 + p2 + p3 + p4 + p5 + p6 + p7) + 128 * (2 * (p1 + p2 + p3 + p4 + p5 + p6 + p7) + 512 * (p2 + p3 + p4 + p5 + p6 + p7) + 131072 * (p3 + p4 + p5 + p6 + p7) + 33554432 * (p4 + p5 + p6 + p7) + 8589934592 * (p5 + p6 + p7) + 2199023255552 * (p6 + p7) + 562949953421312 * p7) := by
    clear b0 b1 b2 b3 b4 b5 b6 b7 hp
    omega
  clear h6 e5
  rw [e6, Nat.add_mul_mod_self_left, hp]
  exact Nat.mod_eq_of_lt (by omega)
end Go.Proofs.YtnodjlgihhinpaaDoor

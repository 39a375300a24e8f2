/- The hash as plain numbers: one step, the texts, the sum. Nothing of a program. -/
import Derived.WalkKit
namespace Go.Proofs.YtnodjlgihhinpaaDoor
set_option linter.unusedVariables false
set_option linter.unusedSimpArgs false

/-- Turned right, among 32 bits. -/
def rotrN (x n : Nat) : Nat := x / 2 ^ n + x % 2 ^ n * 2 ^ (32 - n)
theorem rotr_lt (x n : Nat) (hx : x < 4294967296) (h1 : n ≤ 32) : rotrN x n < 4294967296 := by
  unfold rotrN
  have h : (2 : Nat) ^ n * 2 ^ (32 - n) = 4294967296 := by rw [← Nat.pow_add, show n + (32 - n) = 32 by omega]
  have hp : 0 < (2 : Nat) ^ n := Nat.two_pow_pos n
  have h2 : x / 2 ^ n < 2 ^ (32 - n) := by
    rw [Nat.div_lt_iff_lt_mul hp, Nat.mul_comm, h]
    exact hx
  have h3 : x % 2 ^ n + 1 ≤ 2 ^ n := Nat.mod_lt _ hp
  have h4 : (x % 2 ^ n + 1) * 2 ^ (32 - n) ≤ 2 ^ n * 2 ^ (32 - n) := Nat.mul_le_mul_right _ h3
  rw [h, Nat.add_mul, Nat.one_mul] at h4
  omega
/-- As the machine does it. -/
theorem rotr_or (x n : Nat) (hx : x < 4294967296) (h1 : n ≤ 32) : (x * 2 ^ (32 - n)) % 4294967296 ||| x / 2 ^ n = rotrN x n := by
  have h : (2 : Nat) ^ n * 2 ^ (32 - n) = 4294967296 := by rw [← Nat.pow_add, show n + (32 - n) = 32 by omega]
  have hp : 0 < (2 : Nat) ^ n := Nat.two_pow_pos n
  have h2 : x / 2 ^ n < 2 ^ (32 - n) := by
    rw [Nat.div_lt_iff_lt_mul hp, Nat.mul_comm, h]
    exact hx
  have e : (x * 2 ^ (32 - n)) % 4294967296 = 2 ^ (32 - n) * (x % 2 ^ n) := by
    rw [← h, Nat.mul_comm ((2 : Nat) ^ n), Nat.mul_comm x, Nat.mul_mod_mul_left]
  rw [e, ← Nat.two_pow_add_eq_or_of_lt h2]
  unfold rotrN
  rw [Nat.mul_comm, Nat.add_comm]
def xor3 (x y z : Nat) : Nat := x ^^^ y ^^^ z
def chN (x y z : Nat) : Nat := (x &&& y) ^^^ (z ^^^ (x &&& z))
def majN (x y z : Nat) : Nat := (x &&& y) ^^^ (x &&& z) ^^^ (y &&& z)
theorem xor_mod2 (x y : Nat) : (x ^^^ y) % 2 = (x + y) % 2 := by
  have := @Nat.xor_mod_two_pow x y 1
  simp only [Nat.pow_one] at this
  rw [this]
  have hx := Nat.mod_lt x (show 0 < 2 by omega)
  have hy := Nat.mod_lt y (show 0 < 2 by omega)
  have e : (x + y) % 2 = (x % 2 + y % 2) % 2 := by omega
  rw [e]
  generalize x % 2 = a at *
  generalize y % 2 = b at *
  have ha : a = 0 ∨ a = 1 := by omega
  have hb : b = 0 ∨ b = 1 := by omega
  rcases ha with rfl | rfl <;> rcases hb with rfl | rfl <;> rfl
theorem xor_two (x y : Nat) : x ^^^ y = 2 * ((x / 2) ^^^ (y / 2)) + (x % 2 + y % 2) % 2 := by
  have h1 : (x ^^^ y) / 2 = (x / 2) ^^^ (y / 2) := Nat.xor_div_two
  have h2 : (x ^^^ y) % 2 = (x + y) % 2 := xor_mod2 x y
  omega
theorem and_two (x y : Nat) : x &&& y = 2 * ((x / 2) &&& (y / 2)) + (x % 2) * (y % 2) := by
  have h1 : (x &&& y) / 2 = (x / 2) &&& (y / 2) := Nat.and_div_two
  have h2 : (x &&& y) % 2 = (x % 2) * (y % 2) := by
    have := Nat.and_mod_two_pow (a := x) (b := y) (n := 1)
    simp only [Nat.pow_one] at this
    rw [this]
    have hx := Nat.mod_lt x (show 0 < 2 by omega)
    have hy := Nat.mod_lt y (show 0 < 2 by omega)
    generalize x % 2 = a at *
    generalize y % 2 = b at *
    have ha : a = 0 ∨ a = 1 := by omega
    have hb : b = 0 ∨ b = 1 := by omega
    rcases ha with rfl | rfl <;> rcases hb with rfl | rfl <;> rfl
  rw [← h2]
  omega
theorem xor3_two (x y z : Nat) : xor3 x y z = 2 * xor3 (x / 2) (y / 2) (z / 2) + (x % 2 + y % 2 + z % 2) % 2 := by
  have h1 := xor_two x y
  have h2 := xor_two (x ^^^ y) z
  have h3 : (x ^^^ y) / 2 = (x / 2) ^^^ (y / 2) := Nat.xor_div_two
  rw [h3] at h2
  unfold xor3
  omega
theorem ch_two (x y z : Nat) : chN x y z = 2 * chN (x / 2) (y / 2) (z / 2) + (if x % 2 = 1 then y % 2 else z % 2) := by
  have a1 := and_two x y
  have a2 := and_two x z
  have d1 : (x &&& y) / 2 = (x / 2) &&& (y / 2) := Nat.and_div_two
  have d2 : (x &&& z) / 2 = (x / 2) &&& (z / 2) := Nat.and_div_two
  have x1 := xor_two z (x &&& z)
  have d3 : (z ^^^ (x &&& z)) / 2 = (z / 2) ^^^ ((x / 2) &&& (z / 2)) := by rw [Nat.xor_div_two, d2]
  have x2 := xor_two (x &&& y) (z ^^^ (x &&& z))
  rw [d1, d3] at x2
  unfold chN
  have hx : x % 2 = 0 ∨ x % 2 = 1 := by omega
  rcases hx with e | e
  · rw [if_neg (by omega)]
    rw [e] at a1 a2
    omega
  · rw [if_pos e]
    rw [e] at a1 a2
    omega
theorem maj_two (x y z : Nat) : majN x y z = 2 * majN (x / 2) (y / 2) (z / 2) + (x % 2 + y % 2 + z % 2) / 2 := by
  have a1 := and_two x y
  have a2 := and_two x z
  have a3 := and_two y z
  have d1 : (x &&& y) / 2 = (x / 2) &&& (y / 2) := Nat.and_div_two
  have d2 : (x &&& z) / 2 = (x / 2) &&& (z / 2) := Nat.and_div_two
  have d3 : (y &&& z) / 2 = (y / 2) &&& (z / 2) := Nat.and_div_two
  have x1 := xor_two (x &&& y) (x &&& z)
  have d4 : ((x &&& y) ^^^ (x &&& z)) / 2 = ((x / 2) &&& (y / 2)) ^^^ ((x / 2) &&& (z / 2)) := by rw [Nat.xor_div_two, d1, d2]
  have x2 := xor_two ((x &&& y) ^^^ (x &&& z)) (y &&& z)
  rw [d4, d3] at x2
  unfold majN
  have hx : x % 2 = 0 ∨ x % 2 = 1 := by omega
  have hy : y % 2 = 0 ∨ y % 2 = 1 := by omega
  have hz : z % 2 = 0 ∨ z % 2 = 1 := by omega
  rcases hx with e | e <;> rcases hy with f | f <;> rcases hz with g | g <;> rw [e, f] at a1 <;> rw [e, g] at a2 <;> rw [f, g] at a3 <;> rw [e, f, g] <;> omega
theorem xor3_zero : xor3 0 0 0 = 0 := rfl
theorem ch_zero : chN 0 0 0 = 0 := rfl
theorem maj_zero : majN 0 0 0 = 0 := rfl
theorem xor_lt {x y : Nat} (hx : x < 4294967296) (hy : y < 4294967296) : x ^^^ y < 4294967296 := Nat.xor_lt_two_pow (n := 32) hx hy
theorem and_lt {x y : Nat} (hx : x < 4294967296) : x &&& y < 4294967296 := Nat.lt_of_le_of_lt Nat.and_le_left hx
theorem xor3_lt {x y z : Nat} (hx : x < 4294967296) (hy : y < 4294967296) (hz : z < 4294967296) : xor3 x y z < 4294967296 := xor_lt (xor_lt hx hy) hz
theorem ch_lt {x y z : Nat} (hx : x < 4294967296) (hy : y < 4294967296) (hz : z < 4294967296) : chN x y z < 4294967296 := xor_lt (and_lt hx) (xor_lt hz (and_lt hx))
theorem maj_lt {x y z : Nat} (hx : x < 4294967296) (hy : y < 4294967296) (hz : z < 4294967296) : majN x y z < 4294967296 := xor_lt (xor_lt (and_lt hx) (and_lt hx)) (and_lt hy)
/-- 'not x and z', among 32 bits. -/
theorem not_and (x z : Nat) (hx : x < 4294967296) (hz : z < 4294967296) : (4294967295 - x) &&& z = z ^^^ (x &&& z) := by
  apply Nat.eq_of_testBit_eq
  intro i
  have h : Nat.testBit (4294967295 - x) i = (decide (i < 32) && !x.testBit i) := by
    have := Nat.testBit_two_pow_sub_succ (x := x) (n := 32) (by simpa using hx) i
    simpa [Nat.sub_sub, Nat.add_comm] using this
  rw [Nat.testBit_and, Nat.testBit_xor, Nat.testBit_and, h]
  by_cases hi : i < 32
  · simp only [hi, decide_true, Bool.true_and]
    cases x.testBit i <;> cases z.testBit i <;> rfl
  · have hzz : z.testBit i = false := Nat.testBit_lt_two_pow (Nat.lt_of_lt_of_le hz (by rw [show (4294967296 : Nat) = 2 ^ 32 from rfl]; exact Nat.pow_le_pow_right (by omega) (by omega)))
    simp [hzz]
def kTab : List Nat := [1116352408, 1899447441, 3049323471, 3921009573, 961987163, 1508970993, 2453635748, 2870763221, 3624381080, 310598401, 607225278, 1426881987, 1925078388, 2162078206, 2614888103, 3248222580, 3835390401, 4022224774, 264347078, 604807628, 770255983, 1249150122, 1555081692, 1996064986, 2554220882, 2821834349, 2952996808, 3210313671, 3336571891, 3584528711, 113926993, 338241895, 666307205, 773529912, 1294757372, 1396182291, 1695183700, 1986661051, 2177026350, 2456956037, 2730485921, 2820302411, 3259730800, 3345764771, 3516065817, 3600352804, 4094571909, 275423344, 430227734, 506948616, 659060556, 883997877, 958139571, 1322822218, 1537002063, 1747873779, 1955562222, 2024104815, 2227730452, 2361852424, 2428436474, 2756734187, 3204031479, 3329325298]
def firstN : List Nat := [106, 9, 230, 103, 187, 103, 174, 133, 60, 110, 243, 114, 165, 79, 245, 58, 81, 14, 82, 127, 155, 5, 104, 140, 31, 131, 217, 171, 91, 224, 205, 25]
def sg0 (x : Nat) : Nat := xor3 (rotrN x 7) (rotrN x 18) (x / 8)
def sg1 (x : Nat) : Nat := xor3 (rotrN x 17) (rotrN x 19) (x / 1024)
def bg0 (x : Nat) : Nat := xor3 (rotrN x 2) (rotrN x 13) (rotrN x 22)
def bg1 (x : Nat) : Nat := xor3 (rotrN x 6) (rotrN x 11) (rotrN x 25)
/-- One word more of the message's words. -/
def schedNext (m : List Nat) : Nat := (sg1 (m.getD (m.length - 2) 0) + m.getD (m.length - 7) 0 + sg0 (m.getD (m.length - 15) 0) + m.getD (m.length - 16) 0) % 4294967296
def schedN : Nat → List Nat → List Nat
  | 0, m => m
  | n + 1, m => schedN n (m ++ [schedNext m])
/-- One round. -/
def roundT1 (v : List Nat) (k m : Nat) : Nat := (v.getD 7 0 + bg1 (v.getD 4 0) + chN (v.getD 4 0) (v.getD 5 0) (v.getD 6 0) + k + m) % 4294967296
def roundT2 (v : List Nat) : Nat := (bg0 (v.getD 0 0) + majN (v.getD 0 0) (v.getD 1 0) (v.getD 2 0)) % 4294967296
def roundN (v : List Nat) (k m : Nat) : List Nat := [(roundT1 v k m + roundT2 v) % 4294967296, v.getD 0 0, v.getD 1 0, v.getD 2 0, (v.getD 3 0 + roundT1 v k m) % 4294967296, v.getD 4 0, v.getD 5 0, v.getD 6 0]
def roundsN (m : List Nat) : Nat → Nat → List Nat → List Nat
  | 0, _, v => v
  | n + 1, t, v => roundsN m n (t + 1) (roundN v (kTab.getD t 0) (m.getD t 0))
def wordN (b : List Nat) (i : Nat) : Nat := ((b.getD (4 * i) 0 * 256 + b.getD (4 * i + 1) 0) * 256 + b.getD (4 * i + 2) 0) * 256 + b.getD (4 * i + 3) 0
def bytesN (x : Nat) : List Nat := [x / 16777216 % 256, x / 65536 % 256, x / 256 % 256, x % 256]
def widthN (w : Int) : Nat := (min (max w 1) 32).toNat
def cutN (w : Int) (h : List Nat) : List Nat := h.take (widthN w) ++ List.replicate (h.length - widthN w) 0
/-- One step of the hash. -/
def compressN (w : Int) (st blk : List Nat) : List Nat :=
  let s := (List.range 8).map (wordN st)
  let v := roundsN (schedN 48 ((List.range 16).map (wordN blk))) 64 0 s
  cutN w ((List.range 8).flatMap fun i => bytesN ((s.getD i 0 + v.getD i 0) % 4294967296))
end Go.Proofs.YtnodjlgihhinpaaDoor

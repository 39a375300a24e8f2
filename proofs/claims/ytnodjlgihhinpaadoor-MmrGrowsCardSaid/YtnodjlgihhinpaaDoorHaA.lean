/- The hash: turning right; bits of a number. -/
import Derived.Test.YtnodjlgihhinpaaDoorSha
import Derived.Test.YtnodjlgihhinpaaDoorBase
import Derived.Test.YtnodjlgihhinpaaDoorProg
import Derived.Laws.BitsAllLaws
import Derived.Lib.Hide
import Derived.Deep.LoopGhost
namespace Go.Proofs.YtnodjlgihhinpaaDoor
open Go.RowKit
set_option linter.unusedVariables false
set_option linter.unusedSimpArgs false

theorem rotl_calls (x n : Nat) (hx : x < 4294967296) (hn : n ∈ [2, 6, 7, 11, 13, 17, 18, 19, 22, 25]) (w : World) : Calls Tryd.prog 128 #[.int .u32 x, .int .i64 (-(n : Int))] w fun e w' => e = .returned (.int .u32 (rotrN x n)) ∧ w' = w := by
  simp only [List.mem_cons, List.not_mem_nil, or_false] at hn
  rcases hn with rfl | rfl | rfl | rfl | rfl | rfl | rfl | rfl | rfl | rfl
  · have e : bits BinOp.and IntKind.u64 (IntKind.u64.wrap (-2)) 31 = 30 := by decide
    go_enter Tryd.func128, Tryd.ntmps128
    have e2 : bits BinOp.or IntKind.u32 ((x : Int) * 1073741824 % 4294967296) ((x : Int) / 4) = (rotrN x 2 : Nat) := by
      rw [show ((x : Int) * 1073741824 % 4294967296) = ((x * 1073741824 % 4294967296 : Nat) : Int) from by omega, show (x : Int) / 4 = ((x / 4 : Nat) : Int) from by omega, u32_or_nat _ _ (by omega) (by omega)]
      congr 1
      exact rotr_or x 2 hx (by omega)
    have E2 := Lib.hid e2
    clear e2
    go_wp2
    go_ret
    exact ⟨by rw [← E2.out]; rfl, rfl⟩
  · have e : bits BinOp.and IntKind.u64 (IntKind.u64.wrap (-6)) 31 = 26 := by decide
    go_enter Tryd.func128, Tryd.ntmps128
    have e2 : bits BinOp.or IntKind.u32 ((x : Int) * 67108864 % 4294967296) ((x : Int) / 64) = (rotrN x 6 : Nat) := by
      rw [show ((x : Int) * 67108864 % 4294967296) = ((x * 67108864 % 4294967296 : Nat) : Int) from by omega, show (x : Int) / 64 = ((x / 64 : Nat) : Int) from by omega, u32_or_nat _ _ (by omega) (by omega)]
      congr 1
      exact rotr_or x 6 hx (by omega)
    have E2 := Lib.hid e2
    clear e2
    go_wp2
    go_ret
    exact ⟨by rw [← E2.out]; rfl, rfl⟩
  · have e : bits BinOp.and IntKind.u64 (IntKind.u64.wrap (-7)) 31 = 25 := by decide
    go_enter Tryd.func128, Tryd.ntmps128
    have e2 : bits BinOp.or IntKind.u32 ((x : Int) * 33554432 % 4294967296) ((x : Int) / 128) = (rotrN x 7 : Nat) := by
      rw [show ((x : Int) * 33554432 % 4294967296) = ((x * 33554432 % 4294967296 : Nat) : Int) from by omega, show (x : Int) / 128 = ((x / 128 : Nat) : Int) from by omega, u32_or_nat _ _ (by omega) (by omega)]
      congr 1
      exact rotr_or x 7 hx (by omega)
    have E2 := Lib.hid e2
    clear e2
    go_wp2
    go_ret
    exact ⟨by rw [← E2.out]; rfl, rfl⟩
  · have e : bits BinOp.and IntKind.u64 (IntKind.u64.wrap (-11)) 31 = 21 := by decide
    go_enter Tryd.func128, Tryd.ntmps128
    have e2 : bits BinOp.or IntKind.u32 ((x : Int) * 2097152 % 4294967296) ((x : Int) / 2048) = (rotrN x 11 : Nat) := by
      rw [show ((x : Int) * 2097152 % 4294967296) = ((x * 2097152 % 4294967296 : Nat) : Int) from by omega, show (x : Int) / 2048 = ((x / 2048 : Nat) : Int) from by omega, u32_or_nat _ _ (by omega) (by omega)]
      congr 1
      exact rotr_or x 11 hx (by omega)
    have E2 := Lib.hid e2
    clear e2
    go_wp2
    go_ret
    exact ⟨by rw [← E2.out]; rfl, rfl⟩
  · have e : bits BinOp.and IntKind.u64 (IntKind.u64.wrap (-13)) 31 = 19 := by decide
    go_enter Tryd.func128, Tryd.ntmps128
    have e2 : bits BinOp.or IntKind.u32 ((x : Int) * 524288 % 4294967296) ((x : Int) / 8192) = (rotrN x 13 : Nat) := by
      rw [show ((x : Int) * 524288 % 4294967296) = ((x * 524288 % 4294967296 : Nat) : Int) from by omega, show (x : Int) / 8192 = ((x / 8192 : Nat) : Int) from by omega, u32_or_nat _ _ (by omega) (by omega)]
      congr 1
      exact rotr_or x 13 hx (by omega)
    have E2 := Lib.hid e2
    clear e2
    go_wp2
    go_ret
    exact ⟨by rw [← E2.out]; rfl, rfl⟩
  · have e : bits BinOp.and IntKind.u64 (IntKind.u64.wrap (-17)) 31 = 15 := by decide
    go_enter Tryd.func128, Tryd.ntmps128
    have e2 : bits BinOp.or IntKind.u32 ((x : Int) * 32768 % 4294967296) ((x : Int) / 131072) = (rotrN x 17 : Nat) := by
      rw [show ((x : Int) * 32768 % 4294967296) = ((x * 32768 % 4294967296 : Nat) : Int) from by omega, show (x : Int) / 131072 = ((x / 131072 : Nat) : Int) from by omega, u32_or_nat _ _ (by omega) (by omega)]
      congr 1
      exact rotr_or x 17 hx (by omega)
    have E2 := Lib.hid e2
    clear e2
    go_wp2
    go_ret
    exact ⟨by rw [← E2.out]; rfl, rfl⟩
  · have e : bits BinOp.and IntKind.u64 (IntKind.u64.wrap (-18)) 31 = 14 := by decide
    go_enter Tryd.func128, Tryd.ntmps128
    have e2 : bits BinOp.or IntKind.u32 ((x : Int) * 16384 % 4294967296) ((x : Int) / 262144) = (rotrN x 18 : Nat) := by
      rw [show ((x : Int) * 16384 % 4294967296) = ((x * 16384 % 4294967296 : Nat) : Int) from by omega, show (x : Int) / 262144 = ((x / 262144 : Nat) : Int) from by omega, u32_or_nat _ _ (by omega) (by omega)]
      congr 1
      exact rotr_or x 18 hx (by omega)
    have E2 := Lib.hid e2
    clear e2
    go_wp2
    go_ret
    exact ⟨by rw [← E2.out]; rfl, rfl⟩
  · have e : bits BinOp.and IntKind.u64 (IntKind.u64.wrap (-19)) 31 = 13 := by decide
    go_enter Tryd.func128, Tryd.ntmps128
    have e2 : bits BinOp.or IntKind.u32 ((x : Int) * 8192 % 4294967296) ((x : Int) / 524288) = (rotrN x 19 : Nat) := by
      rw [show ((x : Int) * 8192 % 4294967296) = ((x * 8192 % 4294967296 : Nat) : Int) from by omega, show (x : Int) / 524288 = ((x / 524288 : Nat) : Int) from by omega, u32_or_nat _ _ (by omega) (by omega)]
      congr 1
      exact rotr_or x 19 hx (by omega)
    have E2 := Lib.hid e2
    clear e2
    go_wp2
    go_ret
    exact ⟨by rw [← E2.out]; rfl, rfl⟩
  · have e : bits BinOp.and IntKind.u64 (IntKind.u64.wrap (-22)) 31 = 10 := by decide
    go_enter Tryd.func128, Tryd.ntmps128
    have e2 : bits BinOp.or IntKind.u32 ((x : Int) * 1024 % 4294967296) ((x : Int) / 4194304) = (rotrN x 22 : Nat) := by
      rw [show ((x : Int) * 1024 % 4294967296) = ((x * 1024 % 4294967296 : Nat) : Int) from by omega, show (x : Int) / 4194304 = ((x / 4194304 : Nat) : Int) from by omega, u32_or_nat _ _ (by omega) (by omega)]
      congr 1
      exact rotr_or x 22 hx (by omega)
    have E2 := Lib.hid e2
    clear e2
    go_wp2
    go_ret
    exact ⟨by rw [← E2.out]; rfl, rfl⟩
  · have e : bits BinOp.and IntKind.u64 (IntKind.u64.wrap (-25)) 31 = 7 := by decide
    go_enter Tryd.func128, Tryd.ntmps128
    have e2 : bits BinOp.or IntKind.u32 ((x : Int) * 128 % 4294967296) ((x : Int) / 33554432) = (rotrN x 25 : Nat) := by
      rw [show ((x : Int) * 128 % 4294967296) = ((x * 128 % 4294967296 : Nat) : Int) from by omega, show (x : Int) / 33554432 = ((x / 33554432 : Nat) : Int) from by omega, u32_or_nat _ _ (by omega) (by omega)]
      congr 1
      exact rotr_or x 25 hx (by omega)
    have E2 := Lib.hid e2
    clear e2
    go_wp2
    go_ret
    exact ⟨by rw [← E2.out]; rfl, rfl⟩
theorem rotr_calls (x n : Nat) (hx : x < 4294967296) (hn : n ∈ [2, 6, 7, 11, 13, 17, 18, 19, 22, 25]) (w : World) : Calls Tryd.prog 107 #[.int .u32 x, .int .i64 n] w fun e w' => e = .returned (.int .u32 (rotrN x n)) ∧ w' = w := by
  have h := rotl_calls x n hx hn w
  have hb : n ≤ 25 := by
    simp only [List.mem_cons, List.not_mem_nil, or_false] at hn
    omega
  go_enter Tryd.func107, Tryd.ntmps107
  go_wp2_with (go_at_call 128; refine h.mono ?_; rintro e w1 ⟨rfl, hw1⟩; obtain rfl : w = w1 := hw1.symm)
  go_ret
  exact ⟨rfl, rfl⟩
theorem two_lt (n : Nat) (h : n ≤ 63) : 2 ^ n < 18446744073709551616 := Nat.lt_of_le_of_lt (Nat.pow_le_pow_right (by omega) h) (by decide)
theorem mask_calls (n : Nat) (hn : 1 ≤ n) (h2 : n ≤ 64) (w : World) : Calls Tryd.prog 45 #[.int .i64 n] w fun e w' => e = .returned (.int .u64 (2 ^ n - 1 : Nat)) ∧ w' = w := by
  have hp : 2 ^ n ≤ 18446744073709551616 := Nat.le_trans (Nat.pow_le_pow_right (by omega) h2) (by decide)
  have h0 := Nat.two_pow_pos n
  have e : IntKind.u64.wrap (IntKind.u64.wrap ((2 : Int) ^ n) - 1) = ((2 ^ n - 1 : Nat) : Int) := by
    rw [IntKind.wrap_u64, IntKind.wrap_u64, show ((2 : Int) ^ n) = ((2 ^ n : Nat) : Int) from by simp]
    omega
  have E := Lib.hid e
  clear e hp h0
  go_enter Tryd.func45, Tryd.ntmps45
  go_wp2
  go_ret
  exact ⟨by rw [← E.out]; rfl, rfl⟩
theorem shr_calls (x n : Nat) (hx : x < 18446744073709551616) (h2 : n ≤ 63) (w : World) : Calls Tryd.prog 126 #[.int .u64 x, .int .i64 n] w fun e w' => e = .returned (.int .u64 (x / 2 ^ n : Nat)) ∧ w' = w := by
  have e : ((x : Int) / 2 ^ n) = ((x / 2 ^ n : Nat) : Int) := by simp
  have E := Lib.hid e
  clear e
  go_enter Tryd.func126, Tryd.ntmps126
  go_wp2
  go_ret
  exact ⟨by rw [← E.out]; rfl, rfl⟩
theorem field_calls (x s n : Nat) (hx : x < 18446744073709551616) (hs : s ≤ 63) (hn : 1 ≤ n) (h2 : n ≤ 63) (w : World) : Calls Tryd.prog 104 #[.int .u64 x, .int .i64 s, .int .i64 n] w fun e w' => e = .returned (.int .u64 (x / 2 ^ s % 2 ^ n : Nat)) ∧ w' = w := by
  have h1 := shr_calls x s hx hs w
  have h3 := mask_calls n hn (by omega) w
  have hp := two_lt n h2
  have hd : x / 2 ^ s ≤ x := Nat.div_le_self _ _
  have e : bits BinOp.and IntKind.u64 ((x / 2 ^ s : Nat) : Int) ((2 ^ n - 1 : Nat) : Int) = ((x / 2 ^ s % 2 ^ n : Nat) : Int) := by
    rw [u64_and_nat _ _ (by omega) (by omega), Nat.and_two_pow_sub_one_eq_mod]
  have E := Lib.hid e
  clear e hp hd
  generalize x / 2 ^ s = y at *
  generalize 2 ^ n = z at *
  go_enter Tryd.func104, Tryd.ntmps104
  go_wp2_with fail
  go_at_call 126
  refine h1.mono ?_
  rintro e w1 ⟨rfl, hw1⟩
  obtain rfl : w = w1 := hw1.symm
  go_wp2_with (go_at_call 45; refine h3.mono ?_; rintro e w2 ⟨rfl, hw2⟩; obtain rfl : w = w2 := hw2.symm)
  go_ret
  exact ⟨by rw [← E.out]; rfl, rfl⟩

/-- Bytes as a number, the highest first. -/
def fromN (l : List Nat) : Nat := l.foldl (fun x c => x * 256 + c) 0
theorem from_snoc (l : List Nat) (c : Nat) : fromN (l ++ [c]) = fromN l * 256 + c := by simp [fromN]
theorem from_go : ∀ (l : List Nat) (acc k : Nat), (∀ c ∈ l, c < 256) → acc < 256 ^ k → l.foldl (fun x c => x * 256 + c) acc < 256 ^ (k + l.length)
  | [], acc, k, _, h => by simpa using h
  | c :: l, acc, k, hb, h => by
    have hc := hb c (by simp)
    have := from_go l (acc * 256 + c) (k + 1) (fun x hx => hb x (by simp [hx])) (by rw [Nat.pow_succ]; omega)
    rw [List.foldl_cons, List.length_cons, show k + (l.length + 1) = k + 1 + l.length from by omega]
    exact this
theorem from_lt (l : List Nat) (hb : ∀ c ∈ l, c < 256) : fromN l < 256 ^ l.length := by
  have := from_go l 0 0 hb (by simp)
  rwa [Nat.zero_add] at this
theorem from_calls (w : World) (b o cap : Nat) (l : List Nat) (hl : l.length ≤ 7) (hb : ∀ c ∈ l, c < 256) (hc : ∀ j (h : j < l.length), w.cell? ⟨b, o + j, none⟩ = some (.int .u8 l[j])) :
    Calls Tryd.prog 127 #[.slice (some ⟨b, o, none⟩) l.length cap] w fun e w' => e = .returned (.tuple #[.int .u64 (fromN l), .int .i64 0]) ∧ w' = w := by
  go_enter Tryd.func127, Tryd.ntmps127
  go_wp2
  go_loopg [4, 12] l.length (fun g xx ii wx => ∃ i : Nat, i ≤ l.length ∧ g = l.length - i ∧ ii = .int .i64 i ∧ xx = .int .u64 (fromN (l.take i)) ∧ wx = w)
  case atStart => exact ⟨0, by omega, by omega, rfl, rfl, rfl⟩
  case round =>
    obtain ⟨i, hi, hgi, rfl, rfl, rfl⟩ := hrel
    by_cases hlt : i < l.length
    · have hlt' : i < l.length := hlt
      have y := hc i hlt'
      have hyl := World.block_lt_of_cell? _ _ y
      have hcb := hb l[i] (List.getElem_mem hlt')
      have hlt2 : fromN (l.take i) < 256 ^ 6 := by
        have h1 := from_lt (l.take i) (fun c hc => hb c (List.mem_of_mem_take hc))
        have h2 : 256 ^ (l.take i).length ≤ 256 ^ 6 := Nat.pow_le_pow_right (by omega) (by rw [List.length_take]; omega)
        omega
      have hnext : fromN (l.take (i + 1)) = fromN (l.take i) * 256 + l[i] := by rw [List.take_succ_eq_append_getElem hlt', from_snoc]
      have HN := Lib.hid hnext
      clear hnext hc hb
      generalize l[i] = c at *
      generalize fromN (l.take i) = x at *
      have hx : x < 281474976710656 := hlt2
      clear hlt2
      have e : bits BinOp.or IntKind.u64 ((x : Int) * 256) (c : Int) = ((x * 256 + c : Nat) : Int) := by
        rw [show (x : Int) * 256 = ((x * 256 : Nat) : Int) from by omega, u64_or_nat _ _ (by omega) (by omega)]
        congr 1
        have := Nat.two_pow_add_eq_or_of_lt (i := 8) (b := c) hcb x
        rw [show x * 256 = 2 ^ 8 * x from by omega, ← this]
      have E := Lib.hid e
      clear e
      go_wp2
      go_roundg (l.length - (i + 1))
      case measure => omega
      case rel => exact ⟨i + 1, by omega, rfl, by go_num, by rw [HN.out, ← E.out], rfl⟩
    · obtain rfl : i = l.length := by omega
      rw [List.take_length]
      go_wp2
      go_ret2
      exact ⟨rfl, rfl⟩
end Go.Proofs.YtnodjlgihhinpaaDoor

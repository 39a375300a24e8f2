/- The hash: a word of bytes; a number in bytes. -/
import Derived.Test.YtnodjlgihhinpaaDoorHaA
import Derived.Laws.MakeOwn
import Derived.Deep.LoopGhost
namespace Go.Proofs.YtnodjlgihhinpaaDoor
open Go.RowKit
set_option linter.unusedVariables false
set_option linter.unusedSimpArgs false

theorem word_from (B : List Nat) (i : Nat) : wordN B i = fromN [B.getD (4 * i) 0, B.getD (4 * i + 1) 0, B.getD (4 * i + 2) 0, B.getD (4 * i + 3) 0] := by
  simp [wordN, fromN]
theorem word_lt (B : List Nat) (i : Nat) (hb : ∀ j, B.getD j 0 < 256) : wordN B i < 4294967296 := by
  have h0 := hb (4 * i)
  have h1 := hb (4 * i + 1)
  have h2 := hb (4 * i + 2)
  have h3 := hb (4 * i + 3)
  unfold wordN
  omega
theorem word_calls (w : World) (b o n cap : Nat) (B : List Nat) (i : Nat) (hi : 4 * i + 4 ≤ n) (hn : n ≤ cap) (hcap : cap ≤ 1000000) (hb : ∀ j, B.getD j 0 < 256) (hc : ∀ j, j < n → w.cell? ⟨b, o + j, none⟩ = some (.int .u8 (B.getD j 0))) :
    Calls Tryd.prog 106 #[.slice (some ⟨b, o, none⟩) n cap, .int .i64 i] w fun e w' => e = .returned (.int .u32 (wordN B i)) ∧ w' = w := by
  have hl := word_lt B i hb
  have hf := word_from B i
  have hcall := from_calls w b (o + 4 * i) (cap - 4 * i) [B.getD (4 * i) 0, B.getD (4 * i + 1) 0, B.getD (4 * i + 2) 0, B.getD (4 * i + 3) 0] (by simp) (by
    intro c hcm
    simp only [List.mem_cons, List.not_mem_nil, or_false] at hcm
    rcases hcm with rfl | rfl | rfl | rfl <;> exact hb _) (by
    intro j hj
    have e0 := hc (4 * i) (by omega)
    have e1 := hc (4 * i + 1) (by omega)
    have e2 := hc (4 * i + 2) (by omega)
    have e3 := hc (4 * i + 3) (by omega)
    match j, hj with
    | 0, _ => exact e0
    | 1, _ => rw [show o + 4 * i + 1 = o + (4 * i + 1) from by omega]; exact e1
    | 2, _ => rw [show o + 4 * i + 2 = o + (4 * i + 2) from by omega]; exact e2
    | 3, _ => rw [show o + 4 * i + 3 = o + (4 * i + 3) from by omega]; exact e3
    | j + 4, h => simp at h; omega)
  rw [← hf] at hcall
  simp only [List.length_cons, List.length_nil] at hcall
  clear hf hc hb
  generalize wordN B i = x at *
  go_enter Tryd.func106, Tryd.ntmps106
  go_wp2_with (go_at_call 127; refine hcall.mono ?_; rintro e w1 ⟨rfl, hw1⟩; obtain rfl : w = w1 := hw1.symm)
  go_ret
  exact ⟨rfl, rfl⟩
theorem u_bytes : Tryd.prog.underlying 84 = some (.slice 5) := by kernel_rfl
theorem i_u8 : (Tryd.prog.info? 5).map (fun i => (i.zero, i.size, i.bytes)) = some (some (.int .u8 0), 1, 1) := by kernel_rfl
theorem infoOfB {P : Program} {t : TypeId} {z : Value} {n k : Nat} (h : (P.info? t).map (fun i => (i.zero, i.size, i.bytes)) = some (some z, n, k)) : ∃ i, P.info? t = some i ∧ i.zero = some z ∧ i.size = n ∧ i.bytes = k := by
  cases hi : P.info? t with
  | none => simp [hi] at h
  | some i => simp [hi] at h; exact ⟨i, rfl, h⟩
theorem make_bytes (j : Nat) (hj : j ≤ 100000) (w : World) : (Instr.makeSlice 84 (.int .i64 j) (.int .i64 j)).run Tryd.prog w = .ok (.slice (some ⟨w.heap.size, 0, none⟩) j j) (w.alloc (.cells (madeCells #[.int .u8 0] j) 5)) := by
  obtain ⟨i, hi, hz, hs, hb⟩ := infoOfB i_u8
  have := run_make (P := Tryd.prog) w 84 5 i _ u_bytes hi hz .i64 .i64 j j (by omega) (by omega) (by rw [hb]; omega) (by omega)
  rw [hs, Nat.mul_one] at this
  exact this
theorem high_clear (x y n : Nat) (hx : x < 2 ^ n) (hy : y % 2 ^ n = 0) : x &&& y = 0 := by
  have h1 : (x &&& y) % 2 ^ n = 0 := by rw [Nat.and_mod_two_pow, hy, Nat.and_zero]
  have h2 : x &&& y ≤ x := Nat.and_le_left
  rw [Nat.mod_eq_of_lt (by omega)] at h1
  exact h1
/-- A number in n bytes: the block's cells. -/
structure BigIs (w : World) (b n x : Nat) (i : Nat) : Prop where
  ex : ∃ cs : Array Value, w.heap[b]? = some (.cells cs 5 (0, 0)) ∧ cs.size = n ∧ ∀ k, k < i → cs[n - 1 - k]? = some (.int .u8 (x / 2 ^ (8 * k) % 256 : Nat))
theorem BigIs.step {w : World} {b n x i : Nat} (h : BigIs w b n x i) (hi : i < n) : BigIs (w.setCell ⟨b, n - 1 - i, none⟩ (.int .u8 (x / 2 ^ (8 * i) % 256 : Nat))) b n x (i + 1) := by
  obtain ⟨cs, h1, h2, h3⟩ := h.ex
  refine ⟨_, blk_set h1 _ _, by simpa using h2, fun k hk => ?_⟩
  rw [Array.getElem?_setIfInBounds]
  by_cases e : k = i
  · subst e
    rw [if_pos rfl, if_pos (by omega)]
  · rw [if_neg (by omega)]
    exact h3 k (by omega)
set_option maxRecDepth 100000 in
theorem big_calls (w : World) (x n : Nat) (hn : n = 4 ∨ n = 8) (hx : x < 2 ^ (8 * n)) :
    Calls Tryd.prog 85 #[.int .u64 x, .int .i64 n] w fun e w' => e = .returned (.tuple #[.slice (some ⟨w.heap.size, 0, none⟩) n n, .int .i64 0]) ∧ BigIs w' w.heap.size n x n ∧ Chg [] w w' := by
  have hx2 : x < 18446744073709551616 := Nat.lt_of_lt_of_le hx (Nat.le_trans (Nat.pow_le_pow_right (by omega) (by omega : 8 * n ≤ 64)) (by decide))
  have hm := mask_calls (8 * n) (by omega) (by omega) w
  have hmk := make_bytes n (by omega)
  have hmz : (madeCells #[.int .u8 0] n).size = n := size_madeCells _ _
  have hp : 2 ^ (8 * n) ≤ 18446744073709551616 := Nat.le_trans (Nat.pow_le_pow_right (by omega) (by omega : 8 * n ≤ 64)) (by decide)
  have h0 : 0 < 2 ^ (8 * n) := Nat.two_pow_pos _
  have he : bits BinOp.andNot IntKind.u64 (x : Int) ((2 ^ (8 * n) - 1 : Nat) : Int) = 0 := by
    rw [u64_andNot_nat _ _ hx2 (by omega)]
    have := high_clear x (18446744073709551615 - (2 ^ (8 * n) - 1)) (8 * n) hx (by
      rcases hn with rfl | rfl <;> decide)
    rw [this]
    rfl
  have hf := fun i (hi : i < n) w => field_calls x (8 * i) 8 hx2 (by omega) (by omega) (by omega) w
  have hn8 : n ≤ 8 := by omega
  have HE := Lib.hid he
  clear hx hp h0 he
  generalize 2 ^ (8 * n) - 1 = mk at *
  generalize madeCells #[.int .u8 0] n = cs0 at *
  rw [show ((8 * n : Nat) : Int) = 8 * (n : Int) from by omega] at hm
  have he2 := HE.out
  go_enter Tryd.func85, Tryd.ntmps85
  go_wp2_with (go_at_call 45; refine hm.mono ?_; rintro e w1 ⟨rfl, hw1⟩; obtain rfl : w = w1 := hw1.symm)
  have hB0 : BigIs (w.alloc (.cells cs0 5)) w.heap.size n x 0 := ⟨⟨cs0, blk_new w _, hmz, fun k hk => by omega⟩⟩
  have hc0 : Chg [] w (w.alloc (.cells cs0 5)) := (Chg.refl _ _).alloc _
  clear hmk hm
  generalize World.alloc w _ = w1 at *
  obtain ⟨b, hb⟩ : ∃ b, b = w.heap.size := ⟨_, rfl⟩
  rw [← hb] at hB0 ⊢
  have HB := Lib.hid hb
  clear hb
  go_loopg [26] n (fun g ii wx => ∃ i : Nat, i ≤ n ∧ g = n - i ∧ ii = .int .i64 i ∧ BigIs wx b n x i ∧ Chg [] w wx)
  case atStart => exact ⟨0, by omega, by omega, rfl, hB0, hc0⟩
  case round =>
    clear hB0 hc0
    obtain ⟨i, hi, hgi, rfl, hB, hcw⟩ := hrel
    by_cases hlt : i < n
    · have hlt' : i < n := hlt
      obtain ⟨cs, h1, h2, h3⟩ := hB.ex
      have hfl := hf i hlt' wr
      rw [show ((8 * i : Nat) : Int) = 8 * (i : Int) from by omega, show (((8 : Nat)) : Int) = 8 from rfl] at hfl
      have hst := hB.step hlt'
      obtain ⟨old, hold⟩ : ∃ old, cs[n - 1 - i]? = some old := ⟨_, Array.getElem?_eq_getElem (by omega)⟩
      have hcl := blk_cell h1 (n - 1 - i) hold
      have hfz := blk_frozen h1 (n - 1 - i)
      have hbl := blk_lt h1
      have hidx : ((n : Int) - 1 - i).toNat = n - 1 - i := by omega
      have hy : x / 2 ^ (8 * i) % 2 ^ 8 < 256 := Nat.mod_lt _ (by decide)
      rw [show (256 : Nat) = 2 ^ 8 from rfl] at hst
      have HST := Lib.hid hst
      have hcs := hcw.setCell (p := ⟨b, n - 1 - i, none⟩) (.inr (by rw [HB.out]; exact Nat.le_refl _)) (.int .u8 (x / 2 ^ (8 * i) % 2 ^ 8 : Nat))
      clear hB h1 h2 h3 hf hst hold
      generalize x / 2 ^ (8 * i) % 2 ^ 8 = y at *
      go_wp2_with (go_at_call 104; refine hfl.mono ?_; rintro e w3 ⟨rfl, hw3⟩; obtain rfl : wr = w3 := hw3.symm)
      go_roundg (n - (i + 1))
      case measure => omega
      case rel => exact ⟨i + 1, by omega, rfl, by go_num, HST.out, hcs⟩
    · obtain rfl : i = n := by omega
      go_wp2
      go_ret2
      rw [← HB.out]
      exact ⟨rfl, hB, hcw⟩
end Go.Proofs.YtnodjlgihhinpaaDoor

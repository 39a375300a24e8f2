/- The hash: one step, the memory and the plain part. -/
import Derived.Test.YtnodjlgihhinpaaDoorHaC
namespace Go.Proofs.YtnodjlgihhinpaaDoor
open Go.RowKit
set_option linter.unusedVariables false
set_option linter.unusedSimpArgs false

theorem rot2 (x : Nat) (hx : x < 4294967296) (w : World) : Calls Tryd.prog 107 #[.int .u32 x, .int .i64 2] w fun e w' => e = .returned (.int .u32 (rotrN x 2)) ∧ w' = w := rotr_calls x 2 hx (by simp) w
theorem rot6 (x : Nat) (hx : x < 4294967296) (w : World) : Calls Tryd.prog 107 #[.int .u32 x, .int .i64 6] w fun e w' => e = .returned (.int .u32 (rotrN x 6)) ∧ w' = w := rotr_calls x 6 hx (by simp) w
theorem rot7 (x : Nat) (hx : x < 4294967296) (w : World) : Calls Tryd.prog 107 #[.int .u32 x, .int .i64 7] w fun e w' => e = .returned (.int .u32 (rotrN x 7)) ∧ w' = w := rotr_calls x 7 hx (by simp) w
theorem rot11 (x : Nat) (hx : x < 4294967296) (w : World) : Calls Tryd.prog 107 #[.int .u32 x, .int .i64 11] w fun e w' => e = .returned (.int .u32 (rotrN x 11)) ∧ w' = w := rotr_calls x 11 hx (by simp) w
theorem rot13 (x : Nat) (hx : x < 4294967296) (w : World) : Calls Tryd.prog 107 #[.int .u32 x, .int .i64 13] w fun e w' => e = .returned (.int .u32 (rotrN x 13)) ∧ w' = w := rotr_calls x 13 hx (by simp) w
theorem rot17 (x : Nat) (hx : x < 4294967296) (w : World) : Calls Tryd.prog 107 #[.int .u32 x, .int .i64 17] w fun e w' => e = .returned (.int .u32 (rotrN x 17)) ∧ w' = w := rotr_calls x 17 hx (by simp) w
theorem rot18 (x : Nat) (hx : x < 4294967296) (w : World) : Calls Tryd.prog 107 #[.int .u32 x, .int .i64 18] w fun e w' => e = .returned (.int .u32 (rotrN x 18)) ∧ w' = w := rotr_calls x 18 hx (by simp) w
theorem rot19 (x : Nat) (hx : x < 4294967296) (w : World) : Calls Tryd.prog 107 #[.int .u32 x, .int .i64 19] w fun e w' => e = .returned (.int .u32 (rotrN x 19)) ∧ w' = w := rotr_calls x 19 hx (by simp) w
theorem rot22 (x : Nat) (hx : x < 4294967296) (w : World) : Calls Tryd.prog 107 #[.int .u32 x, .int .i64 22] w fun e w' => e = .returned (.int .u32 (rotrN x 22)) ∧ w' = w := rotr_calls x 22 hx (by simp) w
theorem rot25 (x : Nat) (hx : x < 4294967296) (w : World) : Calls Tryd.prog 107 #[.int .u32 x, .int .i64 25] w fun e w' => e = .returned (.int .u32 (rotrN x 25)) ∧ w' = w := rotr_calls x 25 hx (by simp) w

theorem xorV (x y : Nat) (hx : x < 4294967296) (hy : y < 4294967296) : bits BinOp.xor IntKind.u32 (x : Int) (y : Int) = ((x ^^^ y : Nat) : Int) := u32_xor_nat x y hx hy
theorem xor3V (a b c : Nat) (ha : a < 4294967296) (hb : b < 4294967296) (hc : c < 4294967296) : bits BinOp.xor IntKind.u32 (bits BinOp.xor IntKind.u32 (a : Int) (b : Int)) (c : Int) = ((xor3 a b c : Nat) : Int) := by
  have h1 := xorV a b ha hb
  have h2 := xorV (a ^^^ b) c (xor_lt ha hb) hc
  unfold xor3
  exact (congrArg (fun z => bits BinOp.xor IntKind.u32 z (c : Int)) h1).trans h2
theorem sg0V (x : Nat) (hx : x < 4294967296) : bits BinOp.xor IntKind.u32 (bits BinOp.xor IntKind.u32 (rotrN x 7 : Nat) (rotrN x 18 : Nat)) ((x : Int) / 8) = ((sg0 x : Nat) : Int) := by
  have h1 := rotr_lt x 7 hx (by omega)
  have h2 := rotr_lt x 18 hx (by omega)
  have e : (x : Int) / 8 = ((x / 8 : Nat) : Int) := by omega
  have h3 : x / 8 < 4294967296 := by omega
  unfold sg0
  generalize rotrN x 7 = a at *
  generalize rotrN x 18 = b at *
  rw [e]
  exact xor3V a b _ h1 h2 h3
theorem sg1V (x : Nat) (hx : x < 4294967296) : bits BinOp.xor IntKind.u32 (bits BinOp.xor IntKind.u32 (rotrN x 17 : Nat) (rotrN x 19 : Nat)) ((x : Int) / 1024) = ((sg1 x : Nat) : Int) := by
  have h1 := rotr_lt x 17 hx (by omega)
  have h2 := rotr_lt x 19 hx (by omega)
  have e : (x : Int) / 1024 = ((x / 1024 : Nat) : Int) := by omega
  have h3 : x / 1024 < 4294967296 := by omega
  unfold sg1
  generalize rotrN x 17 = a at *
  generalize rotrN x 19 = b at *
  rw [e]
  exact xor3V a b _ h1 h2 h3
theorem bg0V (x : Nat) (hx : x < 4294967296) : bits BinOp.xor IntKind.u32 (bits BinOp.xor IntKind.u32 (rotrN x 2 : Nat) (rotrN x 13 : Nat)) (rotrN x 22 : Nat) = ((bg0 x : Nat) : Int) :=
  xor3V _ _ _ (rotr_lt x 2 hx (by omega)) (rotr_lt x 13 hx (by omega)) (rotr_lt x 22 hx (by omega))
theorem bg1V (x : Nat) (hx : x < 4294967296) : bits BinOp.xor IntKind.u32 (bits BinOp.xor IntKind.u32 (rotrN x 6 : Nat) (rotrN x 11 : Nat)) (rotrN x 25 : Nat) = ((bg1 x : Nat) : Int) :=
  xor3V _ _ _ (rotr_lt x 6 hx (by omega)) (rotr_lt x 11 hx (by omega)) (rotr_lt x 25 hx (by omega))
theorem not_xor (x : Nat) (hx : x < 4294967296) : 4294967295 ^^^ x = 4294967295 - x := by
  apply Nat.eq_of_testBit_eq
  intro i
  have h : Nat.testBit (4294967295 - x) i = (decide (i < 32) && !x.testBit i) := by
    have := Nat.testBit_two_pow_sub_succ (x := x) (n := 32) (by simpa using hx) i
    simpa [Nat.sub_sub, Nat.add_comm] using this
  have h1 : Nat.testBit 4294967295 i = decide (i < 32) := by
    have := Nat.testBit_two_pow_sub_one 32 i
    simpa using this
  rw [Nat.testBit_xor, h, h1]
  by_cases hi : i < 32
  · simp only [hi, decide_true, Bool.true_and]
    cases x.testBit i <;> rfl
  · have hzz : x.testBit i = false := Nat.testBit_lt_two_pow (Nat.lt_of_lt_of_le hx (by rw [show (4294967296 : Nat) = 2 ^ 32 from rfl]; exact Nat.pow_le_pow_right (by omega) (by omega)))
    simp [hi, hzz]
theorem chV (x y z : Nat) (hx : x < 4294967296) (hy : y < 4294967296) (hz : z < 4294967296) :
    bits BinOp.xor IntKind.u32 (bits BinOp.and IntKind.u32 (x : Int) (y : Int)) (bits BinOp.and IntKind.u32 (bits BinOp.xor IntKind.u32 (if IntKind.u32.signed = true then -1 else IntKind.u32.max) (x : Int)) (z : Int)) = ((chN x y z : Nat) : Int) := by
  have h1 : bits BinOp.xor IntKind.u32 (if IntKind.u32.signed = true then -1 else IntKind.u32.max) (x : Int) = ((4294967295 - x : Nat) : Int) := by
    have := u32_xor_nat 4294967295 x (by omega) hx
    rw [not_xor x hx] at this
    exact this
  rw [h1, u32_and_nat _ _ hx hy, u32_and_nat _ _ (by omega) hz, not_and x z hx hz, u32_xor_nat _ _ (and_lt hx) (xor_lt hz (and_lt hx))]
  rfl
theorem majV (x y z : Nat) (hx : x < 4294967296) (hy : y < 4294967296) (hz : z < 4294967296) :
    bits BinOp.xor IntKind.u32 (bits BinOp.xor IntKind.u32 (bits BinOp.and IntKind.u32 (x : Int) (y : Int)) (bits BinOp.and IntKind.u32 (x : Int) (z : Int))) (bits BinOp.and IntKind.u32 (y : Int) (z : Int)) = ((majN x y z : Nat) : Int) := by
  rw [u32_and_nat _ _ hx hy, u32_and_nat _ _ hx hz, u32_and_nat _ _ hy hz, u32_xor_nat _ _ (and_lt hx) (and_lt hx), u32_xor_nat _ _ (xor_lt (and_lt hx) (and_lt hx)) (and_lt hy)]
  rfl
theorem sg0_lt (x : Nat) (hx : x < 4294967296) : sg0 x < 4294967296 := by
  unfold sg0
  exact xor3_lt (rotr_lt x 7 hx (by omega)) (rotr_lt x 18 hx (by omega)) (by omega)
theorem sg1_lt (x : Nat) (hx : x < 4294967296) : sg1 x < 4294967296 := by
  unfold sg1
  exact xor3_lt (rotr_lt x 17 hx (by omega)) (rotr_lt x 19 hx (by omega)) (by omega)
theorem bg0_lt (x : Nat) (hx : x < 4294967296) : bg0 x < 4294967296 := by
  unfold bg0
  exact xor3_lt (rotr_lt x 2 hx (by omega)) (rotr_lt x 13 hx (by omega)) (rotr_lt x 22 hx (by omega))
theorem bg1_lt (x : Nat) (hx : x < 4294967296) : bg1 x < 4294967296 := by
  unfold bg1
  exact xor3_lt (rotr_lt x 6 hx (by omega)) (rotr_lt x 11 hx (by omega)) (rotr_lt x 25 hx (by omega))

/-- The words, one by one. -/
def mWx (blk m : List Nat) (t : Nat) : Nat := if t < 16 then wordN blk t else schedNext m
def mW (blk : List Nat) : Nat → List Nat
  | 0 => []
  | t + 1 => mW blk t ++ [mWx blk (mW blk t) t]
theorem mW_length (blk : List Nat) : ∀ t, (mW blk t).length = t
  | 0 => rfl
  | t + 1 => by rw [mW, List.length_append, mW_length blk t]; rfl
theorem mWx_lt (blk m : List Nat) (t : Nat) (hb : ∀ j, blk.getD j 0 < 256) : mWx blk m t < 4294967296 := by
  unfold mWx
  split
  · exact word_lt blk t hb
  · exact Nat.mod_lt _ (by decide)
theorem mW_lt (blk : List Nat) (hb : ∀ j, blk.getD j 0 < 256) : ∀ t, ∀ x ∈ mW blk t, x < 4294967296
  | 0 => by simp [mW]
  | t + 1 => by
    intro x hx
    rw [mW] at hx
    rcases List.mem_append.1 hx with h | h
    · exact mW_lt blk hb t x h
    · rw [List.mem_singleton.1 h]
      exact mWx_lt blk _ t hb
theorem mW_first (blk : List Nat) : ∀ t, t ≤ 16 → mW blk t = (List.range t).map (wordN blk)
  | 0, _ => rfl
  | t + 1, h => by
    rw [mW, mW_first blk t (by omega), List.range_succ, List.map_append]
    simp [mWx, show t < 16 by omega]
theorem sched_snoc : ∀ (n : Nat) (m : List Nat), schedN (n + 1) m = schedN n m ++ [schedNext (schedN n m)]
  | 0, m => rfl
  | n + 1, m => by
    rw [schedN, sched_snoc n, schedN]
theorem mW_sched (blk : List Nat) : ∀ n, mW blk (16 + n) = schedN n ((List.range 16).map (wordN blk))
  | 0 => mW_first blk 16 (by omega)
  | n + 1 => by
    rw [← Nat.add_assoc, mW, sched_snoc, mW_sched blk n]
    unfold mWx
    rw [if_neg (by omega)]
theorem set_next (l : List Nat) (t n x : Nat) (h : l.length = t) (ht : t < n) : (l ++ List.replicate (n - t) 0).set t x = l ++ [x] ++ List.replicate (n - (t + 1)) 0 := by
  rw [show n - t = (n - (t + 1)) + 1 by omega, List.replicate_succ, List.set_append_right _ _ (by omega), h, Nat.sub_self, List.set_cons_zero]
  simp
theorem getD_app (l r : List Nat) (j : Nat) (h : j < l.length) : (l ++ r).getD j 0 = l.getD j 0 := by
  rw [List.getD_eq_getElem?_getD, List.getD_eq_getElem?_getD, List.getElem?_append_left h]
theorem getD_lt (l : List Nat) (n : Nat) (h : ∀ x ∈ l, x < n) (hn : 0 < n) (j : Nat) : l.getD j 0 < n := by
  rw [List.getD_eq_getElem?_getD]
  rcases Nat.lt_or_ge j l.length with hj | hj
  · rw [List.getElem?_eq_getElem hj]
    exact h _ (List.getElem_mem hj)
  · rw [List.getElem?_eq_none hj]
    exact hn

/-- The memory of a step: the state, the block, the answer's place, the words. -/
structure CpIs (w wx : World) (B : Nat) (st blk ms : List Nat) : Prop where
  a : wx.heap[B]? = some (.cells (hV st) 37 (0, 0))
  b : wx.heap[B + 1]? = some (.cells (hV blk) 158 (0, 0))
  c : wx.heap[B + 2]? = some (.cells zeroHash 37 (0, 0))
  m : wx.heap[B + 3]? = some (.cells (wV ms) 170 (0, 0))
  chg : Chg [] w wx
  sz : wx.heap.size = B + 4
  B0 : w.heap.size = B
theorem CpIs.init (w : World) (st blk : List Nat) : CpIs w ((((w.alloc (.cells (hV st) 37)).alloc (.cells (hV blk) 158)).alloc (.cells zeroHash 37)).alloc (.cells zero_a64w 170)) w.heap.size st blk (List.replicate 64 0) := by
  have h0 := blk_new w (.cells (hV st) 37)
  have h1 := blk_new (w.alloc (.cells (hV st) 37)) (.cells (hV blk) 158)
  have h2 := blk_new ((w.alloc (.cells (hV st) 37)).alloc (.cells (hV blk) 158)) (.cells zeroHash 37)
  have h3 := blk_new (((w.alloc (.cells (hV st) 37)).alloc (.cells (hV blk) 158)).alloc (.cells zeroHash 37)) (.cells zero_a64w 170)
  simp only [World.size_alloc] at h0 h1 h2 h3
  exact ⟨blk_alloc (blk_alloc (blk_alloc h0 _) _) _, blk_alloc (blk_alloc h1 _) _, blk_alloc h2 _, h3, ((((Chg.refl _ _).alloc _).alloc _).alloc _).alloc _, by simp, rfl⟩
theorem CpIs.drewN {w wx : World} {B : Nat} {st blk ms : List Nat} (h : CpIs w wx B st blk ms) (n : Nat) : CpIs w (wx.drewN n) B st blk ms := ⟨h.a, h.b, h.c, h.m, h.chg.drewN n, h.sz, h.B0⟩
theorem CpIs.set {w wx : World} {B : Nat} {st blk ms : List Nat} (h : CpIs w wx B st blk ms) (t x : Nat) : CpIs w (wx.setCell ⟨B + 3, t, none⟩ (.int .u32 x)) B st blk (ms.set t x) :=
  ⟨blk_far h.a (by simp) _, blk_far h.b (by simp) _, blk_far h.c (by simp) _, by rw [← wV_set]; exact blk_set h.m _ _, h.chg.setCell (.inr (by rw [h.B0]; simp)) _, by rw [World.size_setCell]; exact h.sz, h.B0⟩
theorem CpIs.next {w wx : World} {B t : Nat} {st blk : List Nat} (h : CpIs w wx B st blk (mW blk t ++ List.replicate (64 - t) 0)) (ht : t < 64) : CpIs w (wx.setCell ⟨B + 3, t, none⟩ (.int .u32 (mWx blk (mW blk t) t))) B st blk (mW blk (t + 1) ++ List.replicate (64 - (t + 1)) 0) := by
  have := h.set t (mWx blk (mW blk t) t)
  rw [set_next _ _ _ _ (mW_length blk t) ht] at this
  exact this
theorem CpIs.word {w wx : World} {B t : Nat} {st blk : List Nat} (h : CpIs w wx B st blk (mW blk t ++ List.replicate (64 - t) 0)) (ht : t ≤ 64) {j : Nat} (hj : j < 64) : wx.cell? ⟨B + 3, j, none⟩ = some (.int .u32 ((mW blk t ++ List.replicate (64 - t) 0).getD j 0)) :=
  blk_cell h.m j (wV_at _ j (by rw [List.length_append, mW_length, List.length_replicate]; omega))
end Go.Proofs.YtnodjlgihhinpaaDoor

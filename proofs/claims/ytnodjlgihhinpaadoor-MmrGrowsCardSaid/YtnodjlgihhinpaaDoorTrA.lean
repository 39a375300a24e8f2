/- A tree: its view, its memory, New. -/
import Derived.Test.YtnodjlgihhinpaaDoorHaJ
import Derived.Test.YtnodjlgihhinpaaDoorPsB
import Derived.Test.YtnodjlgihhinpaaDoorStNew
import Derived.Test.YtnodjlgihhinpaaDoorStPush
namespace Go.Proofs.YtnodjlgihhinpaaDoor
open Go.RowKit
set_option linter.unusedVariables false
set_option linter.unusedSimpArgs false

/-! Hashes as cells. -/
def toN (x : Array Value) : List Nat := x.toList.map fun v => (intOf v).toNat
theorem IsHash.toN {x : Array Value} (h : IsHash x) : hV (toN x) = x ∧ (toN x).length = 32 ∧ ∀ n ∈ toN x, n < 256 := by
  obtain ⟨l, rfl, hl, hb⟩ := h.nats
  have e : Proofs.YtnodjlgihhinpaaDoor.toN (hV l) = l := by
    unfold Proofs.YtnodjlgihhinpaaDoor.toN hV
    rw [List.toList_toArray, List.map_map]
    conv => rhs; rw [← List.map_id l]
    apply List.map_congr_left
    intro n _
    simp [intOf]
  rw [e]
  exact ⟨rfl, hl, hb⟩
def nodeA (wd : Int) (x y : Array Value) : Array Value := hV (nodeN wd (toN x) (toN y))
def foldA (wd : Int) (x y : Array Value) : Array Value := hV (foldN wd (toN x) (toN y))
def rootA (wd : Int) (n : Nat) (x : Array Value) : Array Value := hV (rootN wd n (toN x))
theorem nodeA_is (wd : Int) {x y : Array Value} (hx : IsHash x) (hy : IsHash y) : IsHash (nodeA wd x y) := by
  have h := sum_ok wd (1 :: toN x ++ toN y) (text_lt 1 _ _ (by decide) hx.toN.2.2 hy.toN.2.2)
  exact hV_is _ h.1 h.2
theorem foldA_is (wd : Int) {x y : Array Value} (hx : IsHash x) (hy : IsHash y) : IsHash (foldA wd x y) := by
  have h := sum_ok wd (2 :: toN x ++ toN y) (text_lt 2 _ _ (by decide) hx.toN.2.2 hy.toN.2.2)
  exact hV_is _ h.1 h.2
theorem rootA_is (wd : Int) (n : Nat) {x : Array Value} (hx : IsHash x) : IsHash (rootA wd n x) := by
  have h := sum_ok wd (3 :: bigN n 8 ++ toN x) (text_lt 3 _ _ (by decide) (bigN_lt _ _) hx.toN.2.2)
  exact hV_is _ h.1 h.2
theorem nodeA_calls (w : World) (wd : Int) {x y : Array Value} (hx : IsHash x) (hy : IsHash y) (hk : HIs w) : Calls Tryd.prog 19 #[.int .i64 wd, .agg x, .agg y] w (Res w [] (.agg (nodeA wd x y))) := by
  obtain ⟨e1, l1, b1⟩ := hx.toN
  obtain ⟨e2, l2, b2⟩ := hy.toN
  have := node_calls w wd _ _ l1 l2 b1 b2 hk
  rw [e1, e2] at this
  exact this
theorem foldA_calls (w : World) (wd : Int) {x y : Array Value} (hx : IsHash x) (hy : IsHash y) (hk : HIs w) : Calls Tryd.prog 30 #[.int .i64 wd, .agg x, .agg y] w (Res w [] (.agg (foldA wd x y))) := by
  obtain ⟨e1, l1, b1⟩ := hx.toN
  obtain ⟨e2, l2, b2⟩ := hy.toN
  have := fold_calls w wd _ _ l1 l2 b1 b2 hk
  rw [e1, e2] at this
  exact this
theorem rootA_calls (w : World) (wd : Int) (n : Nat) (hn : n < 18446744073709551616) {x : Array Value} (hx : IsHash x) (hk : HIs w) : Calls Tryd.prog 29 #[.int .i64 wd, .int .u64 n, .agg x] w (Res w [] (.agg (rootA wd n x))) := by
  obtain ⟨e1, l1, b1⟩ := hx.toN
  have := root_calls w wd n _ hn l1 b1 hk
  rw [e1] at this
  exact this

/-! The store's view. -/
structure NV where
  n : Nat
  node : Nat → Option (Array Value)
def NV.push (v : NV) (h : Array Value) : NV := ⟨v.n + 1, fun q => if q = v.n then some h else v.node q⟩
def NV.get (v : NV) (p : Nat) : Array Value := if p < v.n then (v.node p).getD zeroHash else zeroHash
def climb (wd : Int) : Nat → Nat → NV → Array Value → NV
  | 0, _, v, _ => v
  | k + 1, h, v, leaf => climb wd k (h + 1) (v.push (nodeA wd (v.get (v.n - 1 - (2 ^ (h + 1) - 1))) leaf)) (nodeA wd (v.get (v.n - 1 - (2 ^ (h + 1) - 1))) leaf)
def appV (wd : Int) (size : Nat) (v : NV) (leaf : Array Value) : NV := climb wd (t1 size) 0 (v.push leaf) leaf
def SS.view (s : SS) : NV := ⟨s.n, s.node⟩
theorem view_get (s : SS) (p : Nat) : s.view.get p = s.getH p := rfl
theorem t1_bit (n : Nat) : ∀ h, h < t1 n → n / 2 ^ h % 2 = 1 := by
  induction n using Nat.strongRecOn with
  | _ n ih =>
    intro h hh
    rcases two_cases n with ⟨k, rfl⟩ | ⟨k, rfl⟩
    · rw [t1_even] at hh; omega
    · rw [t1_odd] at hh
      cases h with
      | zero => simp
      | succ h =>
        have := ih k (by omega) h (by omega)
        rw [Nat.pow_succ, Nat.mul_comm (2 ^ h) 2, ← Nat.div_div_eq_div_mul, show (2 * k + 1) / 2 = k from by omega]
        exact this
theorem t1_end (n : Nat) : n / 2 ^ t1 n % 2 = 0 := by
  induction n using Nat.strongRecOn with
  | _ n ih =>
    rcases two_cases n with ⟨k, rfl⟩ | ⟨k, rfl⟩
    · rw [t1_even]; simp
    · rw [t1_odd, Nat.add_comm 1, Nat.pow_succ, Nat.mul_comm (2 ^ t1 k) 2, ← Nat.div_div_eq_div_mul, show (2 * k + 1) / 2 = k from by omega]
      exact ih k (by omega)
theorem t1_pow_le (n : Nat) : 2 ^ t1 n ≤ n + 1 := by
  induction n using Nat.strongRecOn with
  | _ n ih =>
    rcases two_cases n with ⟨k, rfl⟩ | ⟨k, rfl⟩
    · rw [t1_even]; simp
    · rw [t1_odd, Nat.add_comm 1, Nat.pow_succ]
      have := ih k (by omega)
      omega
theorem t1_le (n : Nat) (h : n < 4611686018427387904) : t1 n ≤ 62 := by
  have := t1_pow_le n
  rcases Nat.lt_or_ge 62 (t1 n) with q | q
  · have h2 := Nat.pow_le_pow_right (show 0 < 2 from by omega) q
    have : (2 : Nat) ^ (62 + 1) = 9223372036854775808 := by decide
    omega
  · exact q

/-! A tree in memory. -/
structure TS where
  s : SS
  sb : Nat
  wd : Int
  size : Nat
def TS.foot (t : TS) (b : Nat) : List Nat := b :: t.s.foot t.sb
structure TrIs (w : World) (b : Nat) (t : TS) : Prop where
  mem : w.heap[b]? = some (.cells #[.pointer (some ⟨t.sb, 0, none⟩), .int .i64 t.wd, .int .u64 t.size] 58 (0, 0))
  st : StIs w t.sb t.s
  apart : b ∉ t.s.foot t.sb
  low : ∀ k ∈ t.foot b, 1 < k ∧ 0 < k
  wd : 1 ≤ t.wd ∧ t.wd ≤ 32
theorem TrIs.chg {w w' : World} {b : Nat} {t : TS} {F : List Nat} (h : TrIs w b t) (hc : Chg F w w') (hF : ∀ k ∈ t.foot b, k ∉ F) : TrIs w' b t :=
  ⟨hc.at h.mem (hF b (by simp [TS.foot])), h.st.chg hc (fun k hk => hF k (by simp [TS.foot, hk])), h.apart, h.low, h.wd⟩
theorem TrIs.chg0 {w w' : World} {b : Nat} {t : TS} (h : TrIs w b t) (hc : Chg [] w w') : TrIs w' b t := h.chg hc (by simp)
theorem TrIs.lt {w : World} {b : Nat} {t : TS} (h : TrIs w b t) : ∀ k ∈ t.foot b, k < w.heap.size := by
  intro k hk
  simp only [TS.foot, List.mem_cons] at hk
  rcases hk with rfl | hk
  · exact blk_lt h.mem
  · exact h.st.lt k hk
def widthI (w : Int) : Int := min (max w 1) 32
def NewTP (w : World) (wd : Int) (log : Nat) (e : Ending) (w' : World) : Prop :=
  ∃ b t, e = .returned (.tuple #[.pointer (some ⟨b, 0, none⟩), .int .i64 0]) ∧ TrIs w' b t ∧ Chg [] w w' ∧ (∀ k ∈ t.foot b, w.heap.size ≤ k) ∧ t.wd = widthI wd ∧ t.size = 0 ∧ t.s.n = 0 ∧ t.s.cks = [] ∧ t.s.pins = [] ∧ t.s.log = log
theorem tnew_fin {w w1 : World} {sb log : Nat} {s : SS} (wd x : Int) (hk : HIs w) (h1 : StIs w1 sb s) (h2 : Chg [] w w1) (h3 : ∀ k ∈ s.foot sb, w.heap.size ≤ k) (h4 : s.log = log) (h5 : s.n = 0) (h6 : s.cks = []) (h7 : s.pins = []) (hx : x = widthI wd) :
    NewTP w wd log (.returned (.tuple #[.pointer (some ⟨w1.heap.size, 0, none⟩), .int .i64 0])) (w1.alloc (.cells #[.pointer (some ⟨sb, 0, none⟩), .int .i64 x, .int .u64 0] 58)) := by
  have hlt := hk.lt
  have hc : Chg [] w1 (w1.alloc (.cells #[.pointer (some ⟨sb, 0, none⟩), .int .i64 x, .int .u64 0] 58)) := (Chg.refl _ _).alloc _
  refine ⟨w1.heap.size, ⟨s, sb, x, 0⟩, rfl, ⟨blk_new w1 _, h1.chg0 hc, fun hm => ?_, ?_, ?_⟩, h2.nil_trans hc, ?_, hx, rfl, h5, h6, h7, h4⟩
  · have := h1.lt _ hm; omega
  · intro k hk
    simp only [TS.foot, List.mem_cons] at hk
    have hs := h2.size
    rcases hk with rfl | hk
    · omega
    · have := h3 k hk; omega
  · show 1 ≤ x ∧ x ≤ 32
    rw [hx]
    unfold widthI
    omega
  · intro k hk
    simp only [TS.foot, List.mem_cons] at hk
    have hs := h2.size
    rcases hk with rfl | hk
    · exact hs
    · exact h3 k hk
set_option maxRecDepth 100000 in
theorem tnew_ok (w : World) (wd : Int) (hwd : -9223372036854775808 ≤ wd ∧ wd < 9223372036854775808) (log : Nat) (hl : log ≤ 16) (hk : HIs w) : Calls Tryd.prog 24 #[.int .i64 wd, .int .i64 log] w (NewTP w wd log) := by
  have hnew := new_ok log w hl
  have hlt := hk.lt
  go_enter Tryd.func24, Tryd.ntmps24
  go_wp2_with (go_at_call 43; refine hnew.mono ?_; rintro e w1 ⟨sb, s, rfl, h1, h2, h3, h4, h5, h6, h7⟩)
  all_goals
    go_ret2
    exact tnew_fin wd _ hk h1 h2 h3 h4 h5 h6 h7 (by unfold widthI; omega)
set_option maxRecDepth 100000 in
theorem tnew_bad (w : World) (wd log : Int) (hl : log < 0 ∨ 16 < log) : Calls Tryd.prog 24 #[.int .i64 wd, .int .i64 log] w (Res w [] (.tuple #[.pointer none, .int .i64 1])) := by
  have hnew := new_bad log w hl
  go_enter Tryd.func24, Tryd.ntmps24
  go_wp2_with (go_at_call 43; refine hnew.mono ?_; rintro e w1 ⟨rfl, hc⟩)
  go_ret2
  exact ⟨rfl, hc⟩
end Go.Proofs.YtnodjlgihhinpaaDoor

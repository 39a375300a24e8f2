/- Places: Spot, Index, Kids walked, at a place that a forest has. -/
import Derived.Test.YtogkfjljdmbogaaDoorPsB
namespace Go.Proofs.YtogkfjljdmbogaaDoor
open Go.RowKit
set_option linter.unusedVariables false
set_option linter.unusedSimpArgs false

def SpotP (w : World) (r k : Nat) (e : Ending) (w' : World) : Prop := e = .returned (.tuple #[.agg #[.int .u8 r, .int .u64 k], .bool true]) ∧ Chg [] w w'
theorem nodes_max : nodesN 4611686018427387904 = 9223372036854775807 := by
  have := nodes_pow0 62
  rw [show (2 : Nat) ^ 62 = 4611686018427387904 from by decide, show (2 : Nat) ^ (62 + 1) - 1 = 9223372036854775807 from by decide] at this
  exact this
theorem place_lt (i r : Nat) (hi : i < 4611686018427387904) (hr : r ≤ t1 i) : nodesN i + r < 9223372036854775807 := by
  have h1 := nodes_succ i
  have h2 := nodes_mono (show i + 1 ≤ 4611686018427387904 from hi)
  rw [nodes_max] at h2
  omega
theorem t1_two (n : Nat) : 2 ^ t1 n ≤ n + 1 := by
  induction n using Nat.strongRecOn with
  | _ n ih =>
    rcases two_cases n with ⟨k, rfl⟩ | ⟨k, rfl⟩
    · rw [t1_even]; simp
    · rw [t1_odd, Nat.add_comm 1, Nat.pow_succ]
      have := ih k (by omega)
      omega
theorem t1_62 (n : Nat) (h : n < 4611686018427387904) : t1 n ≤ 62 := by
  have := t1_two n
  rcases Nat.lt_or_ge 62 (t1 n) with q | q
  · have h2 := Nat.pow_le_pow_right (show 0 < 2 from by omega) q
    have : (2 : Nat) ^ (62 + 1) = 9223372036854775808 := by decide
    omega
  · exact q
set_option maxRecDepth 100000 in
theorem Spot_calls (i r : Nat) (hi : i < 4611686018427387904) (hr : r ≤ t1 i) (w : World) : Calls Tryd.prog 44 #[.int .u64 (nodesN i + r : Nat)] w (SpotP w r ((i + 1) / 2 ^ r - 1)) := by
  have hpl := place_lt i r hi hr
  have h62 := t1_62 i hi
  have hla := fun W => last_calls (nodesN i + r) (by omega) W
  rw [last_of i r (show i < 2 ^ 62 from hi) hr] at hla
  have hno := fun W => nodes_calls i (by omega) W
  have hmx := fun W => nodes_calls 4611686018427387904 (by omega) W
  rw [nodes_max] at hmx
  obtain ⟨M, hM⟩ : ∃ M : Int, M = 9223372036854775807 := ⟨_, rfl⟩
  have hmx2 : ∀ W, Calls Tryd.prog 43 #[.int .u64 4611686018427387904] W fun e w' => e = .returned (.int .u64 M) ∧ w' = W := by rw [hM]; exact hmx
  have hPM : (((nodesN i + r : Nat) : Nat) : Int) < M := by omega
  have hPM2 : decide (M ≤ ((nodesN i + r : Nat) : Int)) = false := decide_eq_false (by omega)
  have hb2 : nodesN i + r < 9223372036854775808 := by omega
  have hsub : ((nodesN i + r : Nat) : Int) - (nodesN i : Nat) = (r : Int) := by omega
  have hd : ((i : Int) + 1) / 2 ^ r = (((i + 1) / 2 ^ r : Nat) : Int) := by
    rw [show (i : Int) + 1 = ((i + 1 : Nat) : Int) from by omega, ← pow_i]
    simp
  have hq : 1 ≤ (i + 1) / 2 ^ r := by
    have h1 := t1_two i
    have h2 := Nat.pow_le_pow_right (show 0 < 2 from by omega) hr
    exact (Nat.one_le_div_iff (Nat.two_pow_pos r)).2 (by omega)
  have hqm : (i + 1) / 2 ^ r ≤ i + 1 := Nat.div_le_self _ _
  have hfin : ((((i + 1) / 2 ^ r - 1 : Nat)) : Int) = (((i + 1) / 2 ^ r : Nat) : Int) - 1 := by omega
  have r62 : r ≤ 62 := by omega
  have HF := Lib.hid hfin
  clear hmx hfin h62 hr hM hpl
  generalize (i + 1) / 2 ^ r = q at *
  generalize nodesN i + r = P at *
  generalize nodesN i = nn at *
  go_enter Tryd.func44, Tryd.ntmps44
  go_wp2_with (first
    | (go_at_call 43; (with_reducible refine (hmx2 _).mono ?_); rintro e w1 ⟨rfl, hw1⟩; subst hw1)
    | (go_at_call 60; (with_reducible refine (hla _).mono ?_); rintro e w1 ⟨rfl, hw1⟩; subst hw1)
    | (go_at_call 43; (with_reducible refine (hno _).mono ?_); rintro e w1 ⟨rfl, hw1⟩; subst hw1))
  refine bodyPost_ret (v := .tuple #[.agg #[.int .u8 r, .int .u64 ((q : Int) - 1)], .bool true]) (by simp [results, Tryd.results44, go_sem]) rfl ⟨by rw [HF.out], ?_⟩
  exact (Chg.refl _ _).alloc _
set_option maxRecDepth 100000 in
theorem index_leaf (i : Nat) (hi : i < 4611686018427387904) (w : World) : Calls Tryd.prog 26 #[.int .u64 (nodesN i : Nat)] w (Res w [] (.tuple #[.int .u64 i, .bool true])) := by
  have hs := Spot_calls i 0 hi (by omega) w
  rw [Nat.add_zero, Nat.pow_zero, Nat.div_one, Nat.add_sub_cancel] at hs
  have hs2 : Calls Tryd.prog 44 #[.int .u64 (nodesN i : Nat)] w fun e w' => e = .returned (.tuple #[.agg #[.int .u8 0, .int .u64 i], .bool true]) ∧ Chg [] w w' := hs
  clear hs
  generalize nodesN i = P at *
  go_enter Tryd.func26, Tryd.ntmps26
  go_wp2_with (go_at_call 44; refine hs2.mono ?_; rintro e w1 ⟨rfl, hc1⟩)
  go_ret2
  exact ⟨rfl, by first | exact hc1.alloc _ | exact (hc1.alloc _).setCell (.inr hc1.size) _⟩
set_option maxRecDepth 100000 in
theorem index_node (i r : Nat) (hi : i < 4611686018427387904) (hr : r ≤ t1 i) (h0 : 0 < r) (w : World) : Calls Tryd.prog 26 #[.int .u64 (nodesN i + r : Nat)] w (Res w [] (.tuple #[.int .u64 0, .bool false])) := by
  have hs := Spot_calls i r hi hr w
  have h62 := t1_62 i hi
  have hd : decide ((0 : Int) < (r : Int)) = true := decide_eq_true (by omega)
  clear hr
  generalize nodesN i + r = P at *
  generalize (i + 1) / 2 ^ r - 1 = k at *
  go_enter Tryd.func26, Tryd.ntmps26
  go_wp2_with (go_at_call 44; refine hs.mono ?_; rintro e w1 ⟨rfl, hc1⟩)
  go_ret2
  exact ⟨rfl, by first | exact hc1.alloc _ | exact (hc1.alloc _).setCell (.inr hc1.size) _⟩
set_option maxRecDepth 100000 in
theorem kids_calls (i r : Nat) (hi : i < 4611686018427387904) (hr : r ≤ t1 i) (h0 : 0 < r) (w : World) : Calls Tryd.prog 27 #[.int .u64 (nodesN i + r : Nat)] w (Res w [] (.tuple #[.int .u64 (nodesN i + r - 2 ^ r : Nat), .int .u64 (nodesN i + r - 1 : Nat), .bool true])) := by
  have hs := Spot_calls i r hi hr w
  have h62 := t1_62 i hi
  have hpl := place_lt i r hi hr
  have r62 : r ≤ 62 := by omega
  have hpw : 2 ^ r ≤ 4611686018427387904 := Nat.pow_le_pow_right (show 0 < 2 from by omega) r62
  have hp0 := Nat.two_pow_pos r
  have hle : 2 ^ r ≤ nodesN i + r := by
    have h1 := t1_two i
    have h2 := Nat.pow_le_pow_right (show 0 < 2 from by omega) hr
    have h3 := nodes_ge i
    omega
  have hsh : IntKind.u64.wrap ((2 : Int) ^ r) = ((2 ^ r : Nat) : Int) := by
    rw [IntKind.wrap_u64, ← pow_i]
    omega
  have hne : ((r : Int) == 0) = false := by rw [beq_eq_false_iff_ne]; omega
  have e1 : ((nodesN i + r - 2 ^ r : Nat) : Int) = ((nodesN i + r : Nat) : Int) - (2 ^ r : Nat) := by omega
  have e2 : ((nodesN i + r - 1 : Nat) : Int) = ((nodesN i + r : Nat) : Int) - 1 := by omega
  rw [e1, e2]
  have hP1 : 1 ≤ nodesN i + r := by omega
  have HZ : Hid ((2 : Int) ^ r = ((2 ^ r : Nat) : Int)) := Lib.hid (pow_i r).symm
  clear hr e1 e2 h62
  generalize nodesN i + r = P at *
  generalize (i + 1) / 2 ^ r - 1 = k at *
  go_enter Tryd.func27, Tryd.ntmps27
  go_wp2_with (go_at_call 44; refine hs.mono ?_; rintro e w1 ⟨rfl, hc1⟩)
  generalize 2 ^ r = z at *
  go_wp2
  have hwr : IntKind.u64.wrap ((P : Int) - 2 ^ r) = (P : Int) - z := by
    rw [HZ.out, IntKind.wrap_u64]
    omega
  refine bodyPost_ret (v := .tuple #[.int .u64 ((P : Int) - z), .int .u64 ((P : Int) - 1), .bool true]) (by simp [results, Tryd.results27, go_sem, hwr]) rfl ⟨rfl, ?_⟩
  first | exact hc1.alloc _ | exact (hc1.alloc _).setCell (.inr hc1.size) _
end Go.Proofs.YtogkfjljdmbogaaDoor

/- Places of nodes: how many nodes, the last leaf, peaks. Nothing of a program. -/
import Derived.Test.YtnodjlgihhinpaaDoorPop
namespace Go.Proofs.YtnodjlgihhinpaaDoor
set_option linter.unusedVariables false
set_option linter.unusedSimpArgs false

/-- How many nodes n leaves have. -/
def nodesN (n : Nat) : Nat := 2 * n - popc n
/-- How many bits are set at the low end. -/
def t1 (n : Nat) : Nat := if h : n % 2 = 1 then 1 + t1 (n / 2) else 0
termination_by n
decreasing_by omega
theorem t1_even (k : Nat) : t1 (2 * k) = 0 := by rw [t1, dif_neg (by omega)]
theorem t1_odd (k : Nat) : t1 (2 * k + 1) = 1 + t1 k := by rw [t1, dif_pos (by omega), show (2 * k + 1) / 2 = k from by omega]
theorem two_cases (n : Nat) : (∃ k, n = 2 * k) ∨ ∃ k, n = 2 * k + 1 := by
  rcases Nat.mod_two_eq_zero_or_one n with h | h
  · exact .inl ⟨n / 2, by omega⟩
  · exact .inr ⟨n / 2, by omega⟩
theorem popc_even (k : Nat) : popc (2 * k) = popc k := by have := popc_bit k 0 (by omega); simpa using this
theorem popc_odd (k : Nat) : popc (2 * k + 1) = popc k + 1 := popc_bit k 1 (by omega)
theorem popc_le_self (n : Nat) : popc n ≤ n := by
  induction n using Nat.strongRecOn with
  | _ n ih =>
    rcases two_cases n with ⟨k, rfl⟩ | ⟨k, rfl⟩
    · rw [popc_even]
      by_cases h : k = 0
      · subst h; rw [popc_zero]; omega
      · have := ih k (by omega); omega
    · rw [popc_odd]
      have := ih k (by omega); omega
theorem popc_succ (n : Nat) : popc (n + 1) + t1 n = popc n + 1 := by
  induction n using Nat.strongRecOn with
  | _ n ih =>
    rcases two_cases n with ⟨k, rfl⟩ | ⟨k, rfl⟩
    · rw [popc_odd, popc_even, t1_even]
    · have := ih k (by omega)
      rw [show 2 * k + 1 + 1 = 2 * (k + 1) from by omega, popc_even, popc_odd, t1_odd]
      omega
theorem nodes_zero : nodesN 0 = 0 := by simp [nodesN]
theorem nodes_succ (n : Nat) : nodesN (n + 1) = nodesN n + 1 + t1 n := by
  have h1 := popc_succ n
  have h2 := popc_le_self n
  have h3 := popc_le_self (n + 1)
  unfold nodesN
  omega
theorem nodes_mono {a b : Nat} (h : a ≤ b) : nodesN a ≤ nodesN b := by
  induction b with
  | zero => obtain rfl : a = 0 := by omega
            exact Nat.le_refl _
  | succ b ih =>
    rcases Nat.lt_or_ge a (b + 1) with q | q
    · have := ih (by omega)
      rw [nodes_succ]; omega
    · obtain rfl : a = b + 1 := by omega
      exact Nat.le_refl _
theorem nodes_ge (n : Nat) : n ≤ nodesN n := by have := popc_le_self n; unfold nodesN; omega
theorem nodes_le (n : Nat) : nodesN n ≤ 2 * n := by unfold nodesN; omega
theorem popc_high (k : Nat) : ∀ r b, r < 2 ^ k → popc (2 ^ k * b + r) = popc b + popc r := by
  induction k with
  | zero => intro r b h; obtain rfl : r = 0 := by simpa using h
            simp [popc_zero]
  | succ k ih =>
    intro r b h
    rw [Nat.pow_succ] at h
    have hk := ih (r / 2) b (by omega)
    have hp : 2 ^ (k + 1) * b = 2 * (2 ^ k * b) := by rw [Nat.pow_succ]; simp [Nat.mul_comm, Nat.mul_left_comm]
    rw [hp, popc_two, popc_two r, show (2 * (2 ^ k * b) + r) % 2 = r % 2 from by omega, show (2 * (2 ^ k * b) + r) / 2 = 2 ^ k * b + r / 2 from by omega, hk]
    omega
theorem popc_one : popc 1 = 1 := by have := popc_odd 0; rw [popc_zero] at this; simpa using this
theorem popc_pow (k j : Nat) (h : j < 2 ^ k) : popc (2 ^ k + j) = 1 + popc j := by
  have := popc_high k j 1 h
  rw [Nat.mul_one, popc_one] at this
  exact this
theorem nodes_pow (k j : Nat) (h : j < 2 ^ k) : nodesN (2 ^ k + j) = 2 ^ (k + 1) - 1 + nodesN j := by
  have h1 := popc_pow k j h
  have h2 := popc_le_self j
  have h3 := Nat.two_pow_pos k
  unfold nodesN
  rw [h1, Nat.pow_succ]
  omega
theorem nodes_pow0 (k : Nat) : nodesN (2 ^ k) = 2 ^ (k + 1) - 1 := by
  have := nodes_pow k 0 (Nat.two_pow_pos k)
  rw [nodes_zero] at this
  simpa using this
theorem t1_pow (h q : Nat) (hq : 0 < q) : h ≤ t1 (q * 2 ^ h - 1) := by
  induction h with
  | zero => omega
  | succ h ih =>
    have hp := Nat.mul_pos hq (Nat.two_pow_pos h)
    have e : q * 2 ^ (h + 1) - 1 = 2 * (q * 2 ^ h - 1) + 1 := by rw [Nat.pow_succ, ← Nat.mul_assoc]; omega
    rw [e, t1_odd]
    omega
/-- The greatest n below 2^h of which not more than p nodes come. -/
def lastGo : Nat → Nat → Nat
  | 0, _ => 0
  | h + 1, p => if 2 ^ (h + 1) - 1 ≤ p then 2 ^ h + lastGo h (p - (2 ^ (h + 1) - 1)) else lastGo h p
theorem last_go : ∀ h p i, i < 2 ^ h → nodesN i ≤ p → (p < nodesN (i + 1) ∨ i + 1 = 2 ^ h) → lastGo h p = i
  | 0, p, i, hi, _, _ => by simp at hi; simp [lastGo, hi]
  | h + 1, p, i, hi, h1, h2 => by
    have hp := Nat.two_pow_pos h
    have e2 : 2 ^ (h + 1) = 2 * 2 ^ h := by rw [Nat.pow_succ]; omega
    by_cases hc : 2 ^ h ≤ i
    · obtain ⟨j, rfl⟩ : ∃ j, i = 2 ^ h + j := ⟨i - 2 ^ h, by omega⟩
      have hj : j < 2 ^ h := by omega
      have hn := nodes_pow h j hj
      have hc2 : 2 ^ (h + 1) - 1 ≤ p := by omega
      rw [lastGo, if_pos hc2, last_go h (p - (2 ^ (h + 1) - 1)) j hj (by omega) ?_]
      by_cases hj1 : j + 1 = 2 ^ h
      · exact .inr hj1
      · left
        have hn1 := nodes_pow h (j + 1) (by omega)
        rcases h2 with h2 | h2
        · rw [Nat.add_assoc] at h2; omega
        · omega
    · have hm := nodes_mono (show i + 1 ≤ 2 ^ h from by omega)
      rw [nodes_pow0] at hm
      have h2' : p < nodesN (i + 1) := by rcases h2 with h2 | h2
                                          · exact h2
                                          · omega
      rw [lastGo, if_neg (by omega)]
      exact last_go h p i (by omega) h1 (.inl h2')
theorem last_of (i r : Nat) (hi : i < 2 ^ 62) (hr : r ≤ t1 i) : lastGo 63 (nodesN i + r) = i :=
  last_go 63 _ i (Nat.lt_of_lt_of_le hi (Nat.pow_le_pow_right (by omega) (by omega))) (by omega) (.inl (by rw [nodes_succ]; omega))
/-- The place of the peak of height h. -/
def pk (n h : Nat) : Nat := nodesN (n / 2 ^ h * 2 ^ h - 1) + h
theorem pk_lt (n h : Nat) (hb : n / 2 ^ h % 2 = 1) : pk n h < nodesN n := by
  have hq : 0 < n / 2 ^ h := Nat.pos_of_ne_zero (by intro e; rw [e] at hb; simp at hb)
  have hm := Nat.mul_pos hq (Nat.two_pow_pos h)
  have ht := t1_pow h _ hq
  have hn := nodes_succ (n / 2 ^ h * 2 ^ h - 1)
  rw [show n / 2 ^ h * 2 ^ h - 1 + 1 = n / 2 ^ h * 2 ^ h from by omega] at hn
  have hle := nodes_mono (Nat.div_mul_le_self n (2 ^ h))
  unfold pk
  omega
/-- The peaks of the c greatest heights. -/
def pkL (n c : Nat) : List Nat := (((List.range c).map (62 - ·)).filter (fun h => n / 2 ^ h % 2 == 1)).map (pk n)
theorem pkL_succ (n c : Nat) : pkL n (c + 1) = if n / 2 ^ (62 - c) % 2 = 1 then pkL n c ++ [pk n (62 - c)] else pkL n c := by
  unfold pkL
  rw [List.range_succ, List.map_append, List.filter_append, List.map_append]
  by_cases h : n / 2 ^ (62 - c) % 2 = 1
  · rw [if_pos h]; simp [h]
  · rw [if_neg h]; simp [h]
theorem pkL_lt (n c : Nat) : ∀ p ∈ pkL n c, p < nodesN n := by
  intro p hp
  unfold pkL at hp
  obtain ⟨h, hh, rfl⟩ := List.mem_map.1 hp
  have := (List.mem_filter.1 hh).2
  exact pk_lt n h (by simpa using this)
theorem div_low (n a b : Nat) (h : a ≤ b) : n % 2 ^ (b + 1) / 2 ^ a % 2 = n / 2 ^ a % 2 := by
  obtain ⟨d, rfl⟩ : ∃ d, b = a + d := ⟨b - a, by omega⟩
  rw [show a + d + 1 = a + (d + 1) from by omega, Nat.pow_add, Nat.mod_mul_right_div_self, Nat.pow_succ, Nat.mul_comm (2 ^ d) 2, Nat.mod_mul_right_mod]
theorem pkL_length (n : Nat) (hn : n < 2 ^ 63) : ∀ c, c ≤ 63 → (pkL n c).length = popc (n / 2 ^ (63 - c))
  | 0, _ => by
    rw [show 63 - 0 = 63 from rfl, Nat.div_eq_of_lt hn, popc_zero]
    rfl
  | c + 1, h => by
    have ih := pkL_length n hn c (by omega)
    rw [pkL_succ, popc_two (n / 2 ^ (63 - (c + 1))), Nat.div_div_eq_div_mul, show 2 ^ (63 - (c + 1)) * 2 = 2 ^ (63 - c) from by rw [← Nat.pow_succ]; congr 1; omega, show 63 - (c + 1) = 62 - c from by omega, ← ih]
    by_cases hb : n / 2 ^ (62 - c) % 2 = 1
    · rw [if_pos hb, List.length_append, hb]; simp; omega
    · rw [if_neg hb]; omega
def peaksN (n : Nat) : List Nat := pkL n 63
theorem peaks_length (n : Nat) (hn : n < 2 ^ 63) : (peaksN n).length = popc n := by
  have := pkL_length n hn 63 (Nat.le_refl _)
  unfold peaksN
  simpa using this
theorem peaks_lt (n : Nat) : ∀ p ∈ peaksN n, p < nodesN n := pkL_lt n 63
end Go.Proofs.YtnodjlgihhinpaaDoor

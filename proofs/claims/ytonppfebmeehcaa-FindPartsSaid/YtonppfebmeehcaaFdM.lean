/- FindParts: what is counted (plain), and a row of counts. -/
import Derived.Test.YtonppfebmeehcaaFdK
import Derived.Laws.MakeOwn
namespace Go.Proofs.Ytonppfebmeehcaa
open Go.RowKit
set_option linter.unusedVariables false
set_option linter.unusedSimpArgs false

/-- The first index of the hash that stands at y. -/
def fx (ls : List HK) (y : Nat) : Nat := match ls[y]? with
  | some k => fstN k ls
  | none => 0
def gfun (ls : List HK) (i : Nat) (T : List Nat) (y : Nat) : Nat := if fx ls y < i then 1 else if y ∈ T then 1 else 0
theorem mem_idx {k : HK} {ls : List HK} {y : Nat} : y ∈ idxOf k ls ↔ ls[y]? = some k := by
  unfold idxOf
  rw [List.mem_filter]
  constructor
  · rintro ⟨_, h⟩; simpa using h
  · intro h
    exact ⟨by have := (List.getElem?_eq_some_iff.1 h).1; simpa using this, by simpa using h⟩
theorem fx_le {ls : List HK} {y : Nat} (hy : y < ls.length) : fx ls y < ls.length := by
  unfold fx
  rw [List.getElem?_eq_getElem hy]
  exact (fstN_at (List.getElem_mem hy)).2
theorem gfun_zero (ls : List HK) (y : Nat) : gfun ls 0 [] y = 0 := by simp [gfun]
theorem gfun_last {ls : List HK} {y : Nat} (hy : y < ls.length) : gfun ls ls.length [] y = 1 := by
  unfold gfun
  rw [if_pos (fx_le hy)]
theorem gfun_no {ls : List HK} {i : Nat} (hf : frst ls i = false) {y : Nat} (hy : y < ls.length) : gfun ls i [] y = gfun ls (i + 1) [] y := by
  unfold gfun
  have hne : fx ls y ≠ i := by
    intro e
    unfold fx at e
    rw [List.getElem?_eq_getElem hy] at e
    have h1 := (fstN_at (List.getElem_mem hy)).1
    simp only at e
    rw [e] at h1
    have : frst ls i = true := by unfold frst; rw [h1]; simp [e]
    rw [this] at hf; cases hf
  by_cases h : fx ls y < i
  · rw [if_pos h, if_pos (by omega)]
  · have h2 : ¬ fx ls y < i + 1 := by omega
    rw [if_neg h, if_neg h2]
theorem gfun_yes {ls : List HK} {i : Nat} {k : HK} (hk : ls[i]? = some k) (hf : fstN k ls = i) {y : Nat} (hy : y < ls.length) : gfun ls i (idxOf k ls) y = gfun ls (i + 1) [] y := by
  unfold gfun
  by_cases h : fx ls y < i
  · rw [if_pos h, if_pos (by omega)]
  · rw [if_neg h]
    by_cases hm : y ∈ idxOf k ls
    · have : fx ls y = i := by unfold fx; rw [mem_idx.1 hm]; exact hf
      rw [if_pos hm, if_pos (by omega)]
    · have : fx ls y ≠ i := by
        intro e
        apply hm
        rw [mem_idx]
        unfold fx at e
        rw [List.getElem?_eq_getElem hy] at e ⊢
        simp only at e
        have h1 := (fstN_at (List.getElem_mem hy)).1
        rw [e, hk] at h1
        exact h1.symm
      rw [if_neg hm, if_neg (by omega)]
      simp
theorem gfun_step {ls : List HK} {i : Nat} {k : HK} (hk : ls[i]? = some k) (hf : fstN k ls = i) {j : Nat} (hj : j < (idxOf k ls).length) :
    gfun ls i ((idxOf k ls).take j) (idxOf k ls)[j] = 0 ∧ (∀ y, gfun ls i ((idxOf k ls).take (j + 1)) y = if y = (idxOf k ls)[j] then 1 else gfun ls i ((idxOf k ls).take j) y) ∧ ls[(idxOf k ls)[j]]? = some k := by
  have hm : ls[(idxOf k ls)[j]]? = some k := mem_idx.1 (List.getElem_mem hj)
  have hfx : fx ls (idxOf k ls)[j] = i := by unfold fx; rw [hm]; exact hf
  have hnt : (idxOf k ls)[j] ∉ (idxOf k ls).take j := by
    intro hin
    obtain ⟨m, hm1, hm2⟩ := List.mem_iff_getElem.1 hin
    rw [List.length_take] at hm1
    rw [List.getElem_take] at hm2
    have := (List.pairwise_iff_getElem.1 (idx_sorted k ls)) m j (by omega) hj (by omega)
    omega
  refine ⟨by unfold gfun; rw [hfx, if_neg (by omega), if_neg hnt], fun y => ?_, hm⟩
  unfold gfun
  rw [List.take_succ_eq_append_getElem hj]
  by_cases e : y = (idxOf k ls)[j]
  · subst e
    have h2 : ¬ fx ls (idxOf k ls)[j] < i := by omega
    rw [if_pos rfl, if_neg h2, if_pos (List.mem_append.2 (.inr (List.mem_singleton.2 rfl)))]
  · rw [if_neg e]
    simp only [List.mem_append, List.mem_singleton, e, or_false]
theorem u_intsF : Try.prog.underlying 45 = some (.slice 3) := by kernel_rfl
theorem i_intF : (Try.prog.info? 3).map (fun i => (i.zero, i.size, i.bytes)) = some (some (.int .i64 0), 1, 8) := by kernel_rfl
theorem make_ints (j : Nat) (hj : j ≤ 400) (w : World) : (Instr.makeSlice 45 (.int .i64 j) (.int .i64 j)).run Try.prog w = .ok (.slice (some ⟨w.heap.size, 0, none⟩) j j) (w.alloc (.cells (madeCells #[.int .i64 0] j) 3)) := by
  obtain ⟨i, hi, hz, hs, hb⟩ := infoOf i_intF
  have := run_make (P := Try.prog) w 45 3 i _ u_intsF hi hz .i64 .i64 j j (by omega) (by omega) (by rw [hb]; omega) (by omega)
  rw [hs, Nat.mul_one] at this
  exact this
/-- A row of counts. -/
def MetN (w : World) (mb j : Nat) (g : Nat → Nat) : Prop := ∃ cs : Array Value, w.heap[mb]? = some (.cells cs 3 (0, 0)) ∧ cs.size = j ∧ ∀ x, x < j → cs[x]? = some (.int .i64 (g x : Nat))
theorem metN_zero (w : World) (j : Nat) : MetN (w.alloc (.cells (madeCells #[.int .i64 0] j) 3)) w.heap.size j (fun _ => 0) := by
  refine ⟨_, blk_new w _, size_madeCells _ _, fun x hx => ?_⟩
  simp [madeCells, hx, Nat.mod_one]
theorem MetN.set {w : World} {mb j : Nat} {g g' : Nat → Nat} (h : MetN w mb j g) (x v : Nat) (hg : ∀ y, g' y = if y = x then v else g y) : MetN (w.setCell ⟨mb, x, none⟩ (.int .i64 (v : Nat))) mb j g' := by
  obtain ⟨cs, h1, h2, h3⟩ := h
  refine ⟨_, blk_set h1 x _, by simpa using h2, fun y hy => ?_⟩
  rw [Array.getElem?_setIfInBounds, hg]
  by_cases e : x = y
  · subst e
    simp [h2, hy]
  · rw [if_neg e, h3 y hy, if_neg (fun h => e h.symm)]
theorem MetN.chg {w w' : World} {mb j : Nat} {g : Nat → Nat} (h : MetN w mb j g) (hc : Chg [] w w') : MetN w' mb j g := by
  obtain ⟨cs, h1, h2, h3⟩ := h
  exact ⟨cs, hc.at h1 (by simp), h2, h3⟩
theorem MetN.congr {w : World} {mb j : Nat} {g g' : Nat → Nat} (h : MetN w mb j g) (hg : ∀ x, x < j → g x = g' x) : MetN w mb j g' := by
  obtain ⟨cs, h1, h2, h3⟩ := h
  exact ⟨cs, h1, h2, fun x hx => by rw [h3 x hx, hg x hx]⟩
theorem MetN.cell {w : World} {mb j : Nat} {g : Nat → Nat} (h : MetN w mb j g) {x : Nat} (hx : x < j) : w.cell? ⟨mb, x, none⟩ = some (.int .i64 (g x : Nat)) ∧ w.frozen? ⟨mb, x, none⟩ = false ∧ mb < w.heap.size := by
  obtain ⟨cs, h1, h2, h3⟩ := h
  exact ⟨blk_cell h1 x (h3 x hx), blk_frozen h1 x, blk_lt h1⟩
end Go.Proofs.Ytonppfebmeehcaa

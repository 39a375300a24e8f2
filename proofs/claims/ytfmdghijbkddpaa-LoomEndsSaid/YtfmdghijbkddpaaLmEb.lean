/- LoomEnds: its walk. -/
import Derived.Test.YtfmdghijbkddpaaLmZ
import Derived.Test.YtfmdghijbkddpaaLmEa
import Derived.Test.YtfmdghijbkddpaaNumsI
namespace Go.Proofs.Ytfmdghijbkddpaa
open Go.RowKit
set_option linter.unusedVariables false
set_option linter.unusedSimpArgs false

theorem init_phi' (a j r : Nat) : (LS.init0 a j r).looked.canc = false ∧ (LS.init0 a j r).looked.made = 0 ∧ (LS.init0 a j r).looked.phi ≤ a + 1 + (if r = 0 then 2 else 3) * j := by
  refine ⟨?_, ?_, ?_⟩
  · unfold LS.looked; split <;> rfl
  · unfold LS.looked; split <;> rfl
  · by_cases hj : 1 ≤ j
    · exact Nat.le_of_eq (init_phi a j r hj).2.2
    · obtain rfl : j = 0 := by omega
      obtain ⟨h1, h2, h3⟩ := init_lists a
      have : ∀ o, phiN r 0 0 0 0 o false (List.replicate a ((0, 0) : Nat × Nat)).length ((List.replicate a ((0, 0) : Nat × Nat)).filter fun x => decide (x.1 = 2)).length ≤ a + 1 + (if r = 0 then 2 else 3) * 0 := by
        intro o
        rw [h2]
        simp only [phiN, List.length_replicate]
        simp
        omega
      unfold LS.looked
      split
      · exact this 1
      · exact this 0

/-- What the law keeps: t moves made; what may yet be done; how it was cancelled. -/
structure LS.run (s : LS) (bd t : Nat) (c : Prop) : Prop where
  made : s.made = t
  phi : t + s.phi ≤ bd
  ends : s.ends
  keen : s.canc = false → s.keen
  canc : s.canc = true → c
theorem runs_canc (s : LS) (bd t : Nat) (c d : Prop) (h : s.run bd t c) (hd : d) : ({ s with canc := true } : LS).run bd t d :=
  ⟨h.made, h.phi, ⟨h.ends.wz, h.ends.once, h.ends.o1, fun x => ⟨(h.ends.o2 x).1, rfl⟩⟩, fun x => by simp at x, fun _ => hd⟩
theorem runs_make (s : LS) (bd t : Nat) (c : Prop) (m : Mv) (hi : s.inv) (h : s.run bd t c) (hc : s.Can m) : (s.make m).run bd (t + 1) c := by
  obtain ⟨_, k2, k3, _, _, _, k7⟩ := inv_make s m hi hc
  have h1 := h.made
  have h2 := h.phi
  refine ⟨by omega, by omega, ends_make s m hi h.ends hc, fun x => ?_, fun x => h.canc (k7.symm.trans x)⟩
  have hf := k7.symm.trans x
  refine keen_make s m hi (h.keen hf) hc ?_
  intro hk
  cases hc with
  | feeder h1 h2 => rw [h1] at hf; cases hf
  | coll h1 h2 => rw [h1] at hf; cases hf
  | quit i hi' h1 h2 => rw [h1] at hf; cases hf
  | _ => simp at hk
theorem runs_over (s : LS) (bd t : Nat) (c : Prop) (hi : s.inv) (hw : 0 < s.ws.length) (hb : bd = s.ws.length + 1 + (if s.room = 0 then 2 else 3) * s.jobs) (h : s.run bd t c) (hn : s.moves = []) :
    s.over ∧ ((s.canc = false ∧ t = bd ∧ s.out = 1 ∧ s.ans.length = s.jobs) ∨ (s.canc = true ∧ s.out = 1 ∧ s.ans.length = s.jobs) ∨ (s.canc = true ∧ s.out = 2 ∧ s.ans.length < s.jobs)) := by
  cases hc : s.canc with
  | false =>
    obtain ⟨k1, k2, k3⟩ := keen_over s hi hw (h.keen hc) h.ends hn
    exact ⟨k1, .inl ⟨rfl, by have := h.made; omega, k2, h.ends.o1 k2⟩⟩
  | true =>
    have hov := canc_over s hc hn
    refine ⟨hov, .inr ?_⟩
    have h2 := hi.out
    have h3 := hov.out
    by_cases e : s.out = 1
    · exact .inl ⟨rfl, e, h.ends.o1 e⟩
    · have e2 : s.out = 2 := by omega
      exact .inr ⟨rfl, e2, (h.ends.o2 e2).1⟩
theorem ans_once (s : LS) (hi : s.inv) (h : s.ends) : s.ans.Nodup ∧ ∀ x ∈ s.ans, x < s.jobs := by
  constructor
  · rw [List.nodup_iff_count]
    intro x
    have := h.once x
    split at this <;> omega
  · intro x hx
    have h1 := h.once x
    have h2 : 0 < s.ans.count x := List.count_pos_iff.2 hx
    have h3 := hi.next
    split at h1 <;> omega

theorem u_bools : Try.prog.underlying 37 = some (.slice 4) := by kernel_rfl
theorem i_bool : (Try.prog.info? 4).map (fun i => (i.zero, i.size, i.bytes)) = some (some (.bool false), 1, 1) := by kernel_rfl
theorem make_bools (j : Nat) (hj : j ≤ 400) (w : World) : (Instr.makeSlice 37 (.int .i64 j) (.int .i64 j)).run Try.prog w = .ok (.slice (some ⟨w.heap.size, 0, none⟩) j j) (w.alloc (.cells (madeCells #[.bool false] j) 4)) := by
  obtain ⟨i, hi, hz, hs, hb⟩ := infoOf i_bool
  have := run_make (P := Try.prog) w 37 4 i _ u_bools hi hz .i64 .i64 j j (by omega) (by omega) (by rw [hb]; omega) (by omega)
  rw [hs, Nat.mul_one] at this
  exact this
/-- The row of those met: so far those of a list. -/
def MetIs (w : World) (mb j : Nat) (l : List Nat) : Prop := ∃ cs : Array Value, w.heap[mb]? = some (.cells cs 4 (0, 0)) ∧ cs.size = j ∧ ∀ x, x < j → cs[x]? = some (.bool (decide (x ∈ l)))
theorem met_zero (w : World) (j : Nat) : MetIs (w.alloc (.cells (madeCells #[.bool false] j) 4)) w.heap.size j [] := by
  refine ⟨_, blk_new w _, size_madeCells _ _, fun x hx => ?_⟩
  simp [madeCells, hx, Nat.mod_one]
theorem MetIs.set {w : World} {mb j : Nat} {l : List Nat} (h : MetIs w mb j l) (x : Nat) : MetIs (w.setCell ⟨mb, x, none⟩ (.bool true)) mb j (l ++ [x]) := by
  obtain ⟨cs, h1, h2, h3⟩ := h
  refine ⟨_, blk_set h1 x _, by simpa using h2, fun y hy => ?_⟩
  rw [Array.getElem?_setIfInBounds]
  by_cases e : x = y
  · subst e
    simp [h2, hy]
  · rw [if_neg e, h3 y hy]
    have : ¬ y = x := fun h => e h.symm
    simp [this]
theorem MetIs.chg {w w' : World} {mb j : Nat} {l : List Nat} (h : MetIs w mb j l) (hc : Chg [] w w') : MetIs w' mb j l := by
  obtain ⟨cs, h1, h2, h3⟩ := h
  exact ⟨cs, hc.at h1 (by simp), h2, h3⟩
end Go.Proofs.Ytfmdghijbkddpaa

/- The loom: Answers, and slices.Clone. -/
import Derived.Test.YtfmdghijbkddpaaLmH
import Derived.Lib.SliceRun
namespace Go.Proofs.Ytfmdghijbkddpaa
open Go.RowKit
set_option linter.unusedVariables false
set_option linter.unusedSimpArgs false

theorem app_list {w : World} {v u : Value} {l m : List Nat} (h : RowIs w 3 1 v l.length (iCells l)) (hm : RowIs w 3 1 u m.length (iCells m)) (hp : ∃ a c, u = .slice (some a) m.length c) (hl : l.length + m.length ≤ 1000000) :
    ∃ v' w', (apX #[34, 34] 34 #[v, u]).run Try.prog w = .ok v' w' ∧ RowIs w' 3 1 v' (l ++ m).length (iCells (l ++ m)) ∧ Chg v.ownBlock.toList w w' ∧
      (v'.ownBlock = v.ownBlock ∨ v'.ownBlock = some w.heap.size) ∧ (∃ a cap, v' = .slice a (l.length + m.length) cap) := by
  obtain ⟨i, hi, hz, hs, hb⟩ := infoOf i_int
  obtain ⟨a, c, rfl⟩ := hp
  have hcells : ∀ k x, (iCells m)[k]? = some x → w.cell? (a.add k) = some x := by
    intro k x hx
    obtain ⟨hl2, ⟨h1, _⟩ | ⟨g, o, cap, cur, h1, hbb, hc, hmx, hsx, ht⟩⟩ := hm
    · cases h1
    · simp only [Value.slice.injEq, Option.some.injEq] at h1
      obtain ⟨rfl, _, rfl⟩ := h1
      have hm' : RowIs w 3 1 (.slice (some ⟨g, o, none⟩) m.length c) m.length (iCells m) := ⟨hl2, .inr ⟨g, o, c, cur, rfl, hbb, hc, hmx, hsx, ht⟩⟩
      rw [Addr.add_mid]
      exact hm'.cell hx
  obtain ⟨v', w', q1, q2, q3, q4⟩ := h.app (P := Try.prog) 34 34 i _ 8 u_ints hi hz hs hb rfl (by omega) a m.length c (iCells m) (by simp [iCells])
    hcells
    (by intro x hx; simp [iCells] at hx; obtain ⟨n, _, rfl⟩ := hx; rfl) (by unfold maxLen; omega) (by omega)
  obtain ⟨b, cap, hv, _⟩ := q2.slice
  refine ⟨v', w', q1, ?_, q3, q4, ⟨b, cap, hv⟩⟩
  rw [List.length_append, show iCells (l ++ m) = iCells l ++ iCells m from by simp [iCells]]
  exact q2

theorem clone_calls (w : World) (v : Value) (l : List Nat) (h : RowIs w 3 1 v l.length (iCells l)) (hl : l.length ≤ 65536) :
    Calls Try.prog 49 #[v] w fun e w' => ∃ v', e = .returned v' ∧ RowIs w' 3 1 v' l.length (iCells l) ∧ Chg [] w w' ∧ (∀ k, v'.ownBlock = some k → w.heap.size ≤ k) := by
  have qT : ∀ (w : World) (a : Option Addr) (n c n' c' : Nat), (binOp .eql 34 (.slice a n c) (.slice none n' c')).run Try.prog w = .ok (.bool a.isNone) w := fun w a n c n' c' => Lib.run_eql_slice_nil w _ _ a n c n' c' u_ints
  rcases h.2 with ⟨rfl, hl0⟩ | ⟨g, o, cap, cur, rfl, hg, hnc, hcm, hcs, htake⟩
  · have hn : l = [] := List.eq_nil_of_length_eq_zero hl0
    subst hn
    go_enter Try.func49, Try.ntmps49
    go_wp2
    go_ret
    exact ⟨_, rfl, RowIs.nil _ _ _, Chg.refl _ _, by simp [Value.ownBlock]⟩
  · have hE : ∀ (W : World) (f : Nat), RowIs (W.alloc (.cells #[] 3)) 3 1 (.slice (some ⟨W.heap.size, 0, none⟩) 0 0) ([] : List Nat).length (iCells []) := fun W f => ⟨rfl, .inr ⟨_, 0, 0, #[], rfl, blk_new W _, by simp, by unfold maxLen; omega, by simp, rfl⟩⟩
    have hc0 : Chg [] w (w.alloc (.cells #[] 3)) := (Chg.refl _ _).alloc _
    have hm := h.chg0 hc0
    obtain ⟨v', w', a1, a2, a3, a4, a5, a6, rfl⟩ := app_list (hE w 0) hm ⟨_, _, rfl⟩ (by simp; omega)
    have hsz : (w.alloc (.cells #[] 3)).heap.size = w.heap.size + 1 := World.size_alloc _ _
    simp only [List.length_nil, Nat.zero_add, List.nil_append] at a1 a2 a4
    have A2 := Lib.hid a2
    have A3 := Lib.hid a3
    have A4 := Lib.hid a4
    clear a2 a3 a4
    go_enter Try.func49, Try.ntmps49
    go_wp2
    go_ret
    refine ⟨.slice a5 l.length a6, rfl, A2.out, hc0.trans A3.out (by intro x hx; simp [Value.ownBlock] at hx; right; omega), ?_⟩
    intro k hk
    rcases A4.out with e | e
    · rw [e] at hk
      simp [Value.ownBlock] at hk
      omega
    · rw [e, hsz] at hk
      simp at hk
      omega
theorem answers_calls (w : World) (b : Nat) (s : LS) (q : LV) (h : LmIs w b s q) : Calls Try.prog 28 #[.pointer (some ⟨b, 0, none⟩)] w fun e w' => ∃ v', e = .returned v' ∧ RowIs w' 3 1 v' s.ans.length (iCells s.ans) ∧ Chg [] w w' ∧ (∀ k, v'.ownBlock = some k → w.heap.size ≤ k) := by
  obtain ⟨c0, c1, c2, c3, c4, c5, c6, c7, c8, c9, c10⟩ := h.cells
  have hb := World.block_lt_of_cell? _ _ c0
  have hr := h.2.2.2.1
  have hl := h.2.2.2.2.2.ans.1
  generalize q.av = av at *
  go_enter Try.func28, Try.ntmps28
  go_wp2_with (go_at_call 49; refine (clone_calls w av s.ans hr hl).mono ?_; rintro e w1 ⟨v', rfl, h1, h2, h3⟩)
  go_ret
  exact ⟨_, rfl, h1, h2, h3⟩
end Go.Proofs.Ytfmdghijbkddpaa

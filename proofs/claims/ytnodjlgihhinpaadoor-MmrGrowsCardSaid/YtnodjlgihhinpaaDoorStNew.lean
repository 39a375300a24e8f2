/- The store: New. -/
import Derived.Test.YtnodjlgihhinpaaDoorStF
namespace Go.Proofs.YtnodjlgihhinpaaDoor
open Go.RowKit
set_option linter.unusedVariables false
set_option linter.unusedSimpArgs false

theorem IsHash.getH {w : World} {b : Nat} {s : SS} (hst : StIs w b s) (p : Nat) : IsHash (s.getH p) := by
  unfold SS.getH
  split
  · cases hn : s.node p with
    | none => exact zeroHash_is
    | some h => obtain ⟨_, _, _, _, hh⟩ := node_ptr hst hn; exact hh
  · exact zeroHash_is

theorem new_bad (l : Int) (w : World) (h : l < 0 ∨ 16 < l) : Calls Tryd.prog 43 #[.int .i64 l] w (Res w [] (.tuple #[.pointer none, .int .i64 1])) := by
  by_cases h0 : l < 0
  · go_enter Tryd.func43, Tryd.ntmps43
    go_wp2
    go_ret2
    exact ⟨rfl, Chg.refl _ _⟩
  · have h1 : 16 < l := by omega
    go_enter Tryd.func43, Tryd.ntmps43
    go_wp2
    go_ret2
    exact ⟨rfl, Chg.refl _ _⟩
def NewPost (w : World) (l : Nat) (e : Ending) (w' : World) : Prop :=
  ∃ b s, e = .returned (.tuple #[.pointer (some ⟨b, 0, none⟩), .int .i64 0]) ∧ StIs w' b s ∧ Chg [] w w' ∧ (∀ k ∈ s.foot b, w.heap.size ≤ k) ∧ s.log = l ∧ s.n = 0 ∧ s.cks = [] ∧ s.pins = []
theorem new_ok (l : Nat) (w : World) (h : l ≤ 16) : Calls Tryd.prog 43 #[.int .i64 l] w (NewPost w l) := by
  have hmm := @run_makeMap Tryd.prog
  go_enter Tryd.func43, Tryd.ntmps43
  go_wp2
  go_ret2
  refine ⟨_, ⟨l, 0, w.heap.size, w.heap.size + 1, [], []⟩, rfl, ?_, (((Chg.refl _ _).alloc _).alloc _).alloc _, ?_, rfl, rfl, rfl, rfl⟩
  · have h1 := blk_new w (.map #[] 0)
    have h2 := blk_new (w.alloc (.map #[] 0)) (.map #[] 0)
    refine ⟨?_, ?_, ?_, by simp, ⟨by simp; omega, by simp, by simp⟩, ⟨h, by simp, by simp, by simp, by simp [SS.node, SS.look], by simp [SS.alive]⟩⟩
    · have h3 := blk_new ((w.alloc (.map #[] 0)).alloc (.map #[] 0)) (.cells #[.int .i64 l, .int .u64 0, .int .u64 0, .map (some w.heap.size), .map (some (w.heap.size + 1))] 101)
      simpa [SS.alive] using h3
    · exact ((MapIs.new encK w).chg ((Chg.refl [] _).alloc _) (by simp)).chg ((Chg.refl [] _).alloc _) (by simp)
    · have h3 := (MapIs.new encU (w.alloc (.map #[] 0))).chg ((Chg.refl [] _).alloc (.cells #[.int .i64 l, .int .u64 0, .int .u64 0, .map (some w.heap.size), .map (some (w.heap.size + 1))] 101)) (by simp)
      simpa using h3
  · intro k hk
    simp [SS.foot] at hk
    omega
end Go.Proofs.YtnodjlgihhinpaaDoor

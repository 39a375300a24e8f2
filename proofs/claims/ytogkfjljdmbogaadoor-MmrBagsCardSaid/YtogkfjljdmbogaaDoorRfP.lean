/- The document's hash, plainly: a text's blocks give the sum. -/
import Derived.Test.YtogkfjljdmbogaaDoorHaI
namespace Go.Proofs.YtogkfjljdmbogaaDoor
open Go.RowKit
set_option linter.unusedVariables false
set_option linter.unusedSimpArgs false

def blocksN (l : List Nat) (m : Nat) : List (List Nat) := (List.range m).map fun i => (l.drop (64 * i)).take 64
theorem blocksN_length (l : List Nat) (m : Nat) : (blocksN l m).length = m := by simp [blocksN]
theorem blocksN_snoc (l : List Nat) (m : Nat) : blocksN l (m + 1) = blocksN l m ++ [(l.drop (64 * m)).take 64] := by simp [blocksN, List.range_succ]
theorem blocksN_cons (l : List Nat) (m : Nat) : blocksN l (m + 1) = l.take 64 :: blocksN (l.drop 64) m := by
  unfold blocksN
  rw [List.range_succ_eq_map, List.map_cons, List.map_map]
  congr 1
  apply List.map_congr_left
  intro i _
  simp only [Function.comp, List.drop_drop]
  congr 2
  omega
theorem patch_whole (r c : List Nat) (hr : r.length = 64) (hc : c.length = 64) : patch r 0 c = c := by
  unfold patch
  rw [List.take_zero, List.nil_append, List.drop_of_length_le (by omega), List.append_nil]
theorem absorbs_blocks (wd : Int) : ∀ (m : Nat) (l : List Nat) (h : HS), l.length = 64 * m → h.rest.length = 64 → h.n % 64 = 0 → (absorbs wd h l).st = (blocksN l m).foldl (compressN wd) h.st
  | 0, l, h, hl, _, _ => by
    obtain rfl : l = [] := List.eq_nil_of_length_eq_zero (by omega)
    rfl
  | m + 1, l, h, hl, hr, hn => by
    have hc : (l.take 64).length = 64 := by rw [List.length_take]; omega
    have hne : l.take 64 ≠ [] := fun e => by rw [e] at hc; simp at hc
    have h1 := absorbs_chunk wd (l.take 64) h hr hne (by omega)
    rw [hc, if_pos (by omega), hn, patch_whole _ _ hr hc] at h1
    have h2 := absorbs_blocks wd m (l.drop 64) ⟨compressN wd h.st (l.take 64), l.take 64, h.n + 64⟩ (by rw [List.length_drop]; omega) hc (by show (h.n + 64) % 64 = 0; omega)
    rw [← List.take_append_drop 64 l, absorbs_app, h1, List.take_append_drop, h2, blocksN_cons, List.foldl_cons]
def padded (l : List Nat) : List Nat := l ++ tailN l.length
theorem padded_length (l : List Nat) : (padded l).length = l.length + 9 + padN l.length := by
  unfold padded tailN
  simp [bigN_length]
  omega
theorem padded_64 (l : List Nat) : (padded l).length % 64 = 0 := by
  rw [padded_length]
  unfold padN
  omega
theorem sum_blocks (wd : Int) (l : List Nat) : sumN wd l = (blocksN (padded l) ((padded l).length / 64)).foldl (compressN wd) (cutN wd firstN) := by
  unfold sumN
  rw [← absorbs_app]
  have h := padded_64 l
  exact absorbs_blocks wd ((padded l).length / 64) (padded l) (startN wd) (by omega) (by simp [startN]) rfl
theorem padded_lt (l : List Nat) (hb : ∀ x ∈ l, x < 256) : ∀ x ∈ padded l, x < 256 := by
  intro x hx
  rcases List.mem_append.1 hx with h | h
  · exact hb x h
  · exact tailN_lt _ x h
theorem blocksN_ok (l : List Nat) (m : Nat) (hl : 64 * m ≤ l.length) (hb : ∀ x ∈ l, x < 256) : ∀ b ∈ blocksN l m, b.length = 64 ∧ ∀ x ∈ b, x < 256 := by
  intro b hb'
  obtain ⟨i, hi, rfl⟩ := List.mem_map.1 hb'
  have := List.mem_range.1 hi
  refine ⟨by rw [List.length_take, List.length_drop]; omega, fun x hx => hb x (List.mem_of_mem_drop (List.mem_of_mem_take hx))⟩
/-- The states behind the first blocks. -/
def statesN (wd : Int) (bs : List (List Nat)) : Nat → List Nat
  | 0 => cutN wd firstN
  | i + 1 => compressN wd (statesN wd bs i) (bs.getD i [])
theorem states_fold (wd : Int) (bs : List (List Nat)) : ∀ i, i ≤ bs.length → statesN wd bs i = (bs.take i).foldl (compressN wd) (cutN wd firstN)
  | 0, _ => rfl
  | i + 1, h => by
    rw [List.take_succ_eq_append_getElem (show i < bs.length from h), List.foldl_append, ← states_fold wd bs i (by omega), statesN]
    simp [List.getD, show i < bs.length from h]
theorem states_ok (wd : Int) (bs : List (List Nat)) : ∀ i, (statesN wd bs i).length = 32 ∧ ∀ x ∈ statesN wd bs i, x < 256
  | 0 => ⟨cut_length wd firstN rfl, cut_lt wd firstN (by decide)⟩
  | i + 1 => compress_ok wd _ _
end Go.Proofs.YtogkfjljdmbogaaDoor

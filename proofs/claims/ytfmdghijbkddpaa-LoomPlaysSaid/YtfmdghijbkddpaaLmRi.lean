/- A loom and the document's, side by side: whatever move is asked, both tell the same. -/
import Derived.Test.YtfmdghijbkddpaaLmRf
import Derived.Test.YtfmdghijbkddpaaLmY
namespace Go.Proofs.Ytfmdghijbkddpaa
open Go.RowKit
set_option linter.unusedVariables false
set_option linter.unusedSimpArgs false

/-- What Move tells, and what it makes. -/
def LS.mvE (s : LS) (k : Int) : Int := if 0 ≤ k ∧ k < s.moves.length then 0 else 130
def LS.mvS (s : LS) (k : Int) : LS := if h : 0 ≤ k ∧ k < s.moves.length then s.make (s.moves[k.toNat]'(by omega)) else s
theorem mvS_keep (s : LS) (k : Int) (hg : s.good) (he : s.ends) : (s.mvS k).good ∧ (s.mvS k).ends := by
  unfold LS.mvS
  split
  · have hc := can_of_mem s _ (List.getElem_mem (by omega : k.toNat < s.moves.length))
    exact ⟨hg.make hc, ends_make s _ hg.1 he hc⟩
  · exact ⟨hg, he⟩
theorem mv_calls (w : World) (b : Nat) (s : LS) (q : LV) (k : Int) (h : LmIs w b s q) (hg : s.good) :
    Calls Try.prog 14 #[.pointer (some ⟨b, 0, none⟩), .int .i64 k] w fun e w' => e = .returned (.int .i64 (s.mvE k)) ∧ MakeP w b q (s.mvS k) w' := by
  by_cases hk : 0 ≤ k ∧ k < s.moves.length
  · obtain ⟨n, rfl⟩ : ∃ n : Nat, k = n := ⟨k.toNat, by omega⟩
    have e1 : s.mvE n = 0 := by unfold LS.mvE; rw [if_pos hk]
    have e2 : s.mvS n = s.make (s.moves[n]'(by omega)) := by unfold LS.mvS; rw [dif_pos hk]; rfl
    rw [e1, e2]
    exact move_ok w b s q n h hg (by omega)
  · have e1 : s.mvE k = 130 := by unfold LS.mvE; rw [if_neg hk]
    have e2 : s.mvS k = s := by unfold LS.mvS; rw [dif_neg hk]
    rw [e1, e2]
    exact (move_bad w b s q k h (by omega)).mono fun e w' ⟨h1, h2⟩ => ⟨h1, q, h.chg0 h2, h2.of_nil, fun k hk => .inl hk⟩
theorem rmv_calls (w : World) (b : Nat) (s : LS) (q : RV) (k : Int) (h : RefIs w b s q) (hg : s.good) (he : s.ends) :
    Calls Try.prog 19 #[.pointer (some ⟨b, 0, none⟩), .int .i64 k] w fun e w' => e = .returned (.int .i64 (s.mvE k)) ∧ RMakeP w b q (s.mvS k) w' := by
  by_cases hk : 0 ≤ k ∧ k < s.moves.length
  · obtain ⟨n, rfl⟩ : ∃ n : Nat, k = n := ⟨k.toNat, by omega⟩
    have e1 : s.mvE n = 0 := by unfold LS.mvE; rw [if_pos hk]
    have e2 : s.mvS n = s.make (s.moves[n]'(by omega)) := by unfold LS.mvS; rw [dif_pos hk]; rfl
    rw [e1, e2]
    exact rmove_ok w b s q n h hg he.wz (by omega)
  · have e1 : s.mvE k = 130 := by unfold LS.mvE; rw [if_neg hk]
    have e2 : s.mvS k = s := by unfold LS.mvS; rw [dif_neg hk]
    rw [e1, e2]
    exact (rmove_bad w b s q k h hg he.wz (by omega)).mono fun e w' ⟨h1, h2⟩ => ⟨h1, q, h.chg0 h2, h2.of_nil, fun k hk => .inl hk⟩

/-- A loom and the document's, of one state, apart from each other, both new. -/
structure PR (w0 w : World) (b : Nat) (q : LV) (rb : Nat) (rq : RV) (s : LS) : Prop where
  l : LmIs w b s q
  r : RefIs w rb s rq
  good : s.good
  ends : s.ends
  nl : ∀ k ∈ q.foot b, w0.heap.size ≤ k
  nr : ∀ k ∈ rq.lv.foot rb, w0.heap.size ≤ k
  ap : ∀ k ∈ q.foot b, k ∉ rq.lv.foot rb
/-- Both footprints. -/
def feet (b : Nat) (q : LV) (rb : Nat) (rq : RV) : List Nat := q.foot b ++ rq.lv.foot rb
theorem PR.chg {w0 w w' : World} {b rb : Nat} {q : LV} {rq : RV} {s : LS} {F : List Nat} (h : PR w0 w b q rb rq s) (hc : Chg F w w') (hF : ∀ k ∈ feet b q rb rq, k ∉ F) : PR w0 w' b q rb rq s :=
  ⟨h.l.chg hc (fun k hk => hF k (by simp [feet, hk])), h.r.chg hc (fun k hk => hF k (by simp [feet, hk])), h.good, h.ends, h.nl, h.nr, h.ap⟩
theorem PR.chg0 {w0 w w' : World} {b rb : Nat} {q : LV} {rq : RV} {s : LS} (h : PR w0 w b q rb rq s) (hc : Chg [] w w') : PR w0 w' b q rb rq s := h.chg hc (by simp)
theorem PR.lt {w0 w : World} {b rb : Nat} {q : LV} {rq : RV} {s : LS} (h : PR w0 w b q rb rq s) : ∀ k ∈ feet b q rb rq, k < w.heap.size := by
  intro k hk
  simp only [feet, List.mem_append] at hk
  rcases hk with hk | hk
  · exact h.l.lt k hk
  · exact h.r.lt k hk
theorem PR.new {w0 w : World} {b rb : Nat} {q : LV} {rq : RV} {s : LS} (h : PR w0 w b q rb rq s) : ∀ k ∈ feet b q rb rq, w0.heap.size ≤ k := by
  intro k hk
  simp only [feet, List.mem_append] at hk
  rcases hk with hk | hk
  · exact h.nl k hk
  · exact h.nr k hk
/-- The first half of a step: the loom has moved. -/
structure PH (w0 w w1 : World) (b : Nat) (q : LV) (rb : Nat) (rq : RV) (s s' : LS) : Prop where
  was : PR w0 w b q rb rq s
  size : w0.heap.size ≤ w.heap.size
  mv : MakeP w b q s' w1
theorem PH.ref {w0 w w1 : World} {b rb : Nat} {q : LV} {rq : RV} {s s' : LS} (h : PH w0 w w1 b q rb rq s s') : RefIs w1 rb s rq := by
  obtain ⟨q', h1, h2, h3⟩ := h.mv
  exact h.was.r.chg h2 (fun k hk hx => h.was.ap k hx hk)
/-- The step's end. -/
theorem PH.done {w0 w w1 w2 : World} {b rb : Nat} {q : LV} {rq : RV} {s s' : LS} (h : PH w0 w w1 b q rb rq s s') (hg : s'.good) (he : s'.ends) (hm : RMakeP w1 rb rq s' w2) :
    ∃ q' rq', PR w0 w2 b q' rb rq' s' ∧ Chg (feet b q rb rq) w w2 ∧ ∀ k ∈ feet b q' rb rq', k ∈ feet b q rb rq ∨ w.heap.size ≤ k := by
  obtain ⟨q', a1, a2, a3⟩ := h.mv
  obtain ⟨rq', b1, b2, b3⟩ := hm
  have s1 := a2.size
  have hsz := h.size
  have hal := a1.lt
  have hrl := h.was.r.lt
  have hgrow : ∀ k ∈ feet b q' rb rq', k ∈ feet b q rb rq ∨ w.heap.size ≤ k := by
    intro k hk
    simp only [feet, List.mem_append] at hk ⊢
    rcases hk with hk | hk
    · rcases a3 k hk with e | e
      · exact .inl (.inl e)
      · exact .inr e
    · rcases b3 k hk with e | e
      · exact .inl (.inr e)
      · exact .inr (by omega)
  have hd : ∀ k ∈ q'.foot b, k ∉ rq.lv.foot rb := by
    intro k hk hx
    rcases a3 k hk with e | e
    · exact h.was.ap k e hx
    · have := hrl k hx; omega
  refine ⟨q', rq', ⟨a1.chg b2 hd, b1, hg, he, ?_, ?_, ?_⟩, ?_, hgrow⟩
  · intro k hk
    rcases a3 k hk with e | e
    · exact h.was.nl k e
    · omega
  · intro k hk
    rcases b3 k hk with e | e
    · exact h.was.nr k e
    · omega
  · intro k hk hx
    rcases b3 k hx with e | e
    · exact hd k hk e
    · have := hal k hk; omega
  · refine Chg.trans (a2.mono (fun x hx _ => by simp [feet, hx])) b2 (fun x hx => .inl (by simp [feet, hx]))
end Go.Proofs.Ytfmdghijbkddpaa

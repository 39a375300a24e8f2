/- The store: Push. -/
import Derived.Test.YtnodjlgihhinpaaDoorStD
namespace Go.Proofs.YtnodjlgihhinpaaDoor
open Go.RowKit
set_option linter.unusedVariables false
set_option linter.unusedSimpArgs false

/-- What a call leaves that lays a node at p, or kills it. -/
def PutP (w : World) (b : Nat) (s : SS) (p : Nat) (o : Option (Array Value)) (al : Nat) (v : Value) (e : Ending) (w' : World) : Prop :=
  e = .returned v ∧ ∃ s', StIs w' b s' ∧ PutRel s s' p o al ∧ Mv (s.foot b) (s'.foot b) w w'

theorem StIs.bump {w : World} {b : Nat} {s : SS} (hst : StIs w b s) (n : Nat) (h1 : s.n ≤ n) (h2 : n < 18446744073709551616) : StIs (w.setCell ⟨b, 1, none⟩ (.int .u64 n)) b { s with n := n } := by
  obtain ⟨hb, hm, hp, hc, ha, ho⟩ := hst
  have hch : Chg [b] w (w.setCell ⟨b, 1, none⟩ (.int .u64 n)) := (Chg.refl _ _).setCell (by simp) _
  refine ⟨blk_set hb 1 _, hm.chg hch (by simpa using ha.head.1.symm), hp.chg hch (by simpa using ha.head.2.1.symm), ?_, ⟨ha.head, ha.each, ha.two⟩, ⟨ho.log, h2, ho.key, ho.pin, ?_, ho.al⟩⟩
  · intro x hx
    have := ha.each x hx
    exact (hc x hx).chg hch (by simpa using this.2.1) (by simpa using this.2.2.2.2.1)
  · intro p hp
    have := ho.top p hp
    show p < n
    omega

def PushP (w : World) (b : Nat) (s : SS) (h : Array Value) (e : Ending) (w' : World) : Prop :=
  e = .returned (.int .u64 s.n) ∧ ∃ s', StIs w' b s' ∧ PutRel { s with n := s.n + 1 } s' s.n (some h) (s.alive + 1) ∧ Mv (s.foot b) (s'.foot b) w w'

set_option maxRecDepth 100000 in
theorem push_calls (b : Nat) (s : SS) (h : Array Value) (w : World) (hst : StIs w b s) (hh : IsHash h) (hn : s.n < 18446744073709551615) (ha : s.alive < 1099511627776) :
    Calls Tryd.prog 44 #[.pointer (some ⟨b, 0, none⟩), .agg h] w (PushP w b s h) := by
  have hb := hst.blt
  have hc1 := hst.cell1
  have hf1 := blk_frozen hst.1 1
  have hsz := hh.1
  have hone := hh.one
  have hno : s.node s.n = none := by
    cases h0 : s.node s.n with
    | none => rfl
    | some q => have := hst.2.2.2.2.2.top s.n (by rw [h0]; rfl); omega
  have hlay : ∀ w1, StIs w1 b { s with n := s.n + 1 } → Calls Tryd.prog 81 #[.pointer (some ⟨b, 0, none⟩), .int .u64 s.n, .agg h] w1 (LayPost w1 b { s with n := s.n + 1 } s.n h) :=
    fun w1 h1 => lay_calls b s.n { s with n := s.n + 1 } h w1 h1 (by omega) hh (by show s.n < s.n + 1; omega) hno ha
  have HS := Lib.hid hst
  clear hst
  go_enter Tryd.func44, Tryd.ntmps44
  go_wp2_with (go_at_call 81; refine (hlay _ ?q1).mono ?_; rotate_left 1; rintro e w1 ⟨rfl, s', h1, h2, h3⟩)
  case q1 =>
    have h0 := (HS.out.bump (s.n + 1) (by omega) (by omega)).chg0 ((Chg.refl [] _).alloc (.cells h 37))
    simpa using h0
  go_ret
  refine ⟨rfl, s', h1, h2, ?_, ?_⟩
  · exact ((((Chg.refl (s.foot b) w).setCell (p := ⟨b, 1, none⟩) (by left; simp [SS.foot]) _)).alloc _).trans h3.1 (by intro k hk; left; exact hk)
  · intro k hk
    rcases h3.2 k hk with q | q
    · left; exact q
    · right; simp at q; omega

end Go.Proofs.YtnodjlgihhinpaaDoor

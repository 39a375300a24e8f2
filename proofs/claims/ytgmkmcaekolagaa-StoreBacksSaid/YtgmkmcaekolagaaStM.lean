/- The store: Push, Drop, Back. -/
import Derived.Test.YtgmkmcaekolagaaStL
import Derived.Test.YtgmkmcaekolagaaStI
import Derived.Test.YtgmkmcaekolagaaStD
namespace Go.Proofs.Ytgmkmcaekolagaa
open Go.RowKit

/-- What a call leaves that lays a node at p, or kills it. -/
def PutP (w : World) (b : Nat) (s : SS) (p : Nat) (o : Option (Array Value)) (al : Nat) (v : Value) (e : Ending) (w' : World) : Prop :=
  e = .returned v ∧ ∃ s', StIs w' b s' ∧ PutRel s s' p o al ∧ Mv (s.foot b) (s'.foot b) w w'

theorem StIs.bump {w : World} {b : Nat} {s : SS} (hst : StIs w b s) (n : Nat) (h1 : s.n ≤ n) (h2 : n < 18446744073709551616) : StIs (w.setCell ⟨b, 1, none⟩ (.int .u64 n)) b { s with n := n } := by
  obtain ⟨hb, hm, hp, hc, ha, ho⟩ := hst
  have hch : Chg [b] w (w.setCell ⟨b, 1, none⟩ (.int .u64 n)) := (Chg.refl _ _).setCell (by simp) _
  refine ⟨blk_set hb 1 _, hm.chg hch (by simpa using ha.head.1.symm), hp.chg hch (by simpa using ha.head.2.1.symm), ?_, ⟨ha.head, ha.each, ha.two⟩, ⟨ho.log, h2, ho.key, ho.pin, ?_, ho.al⟩⟩
  · intro x hx
    have := ha.each x hx
    exact (hc x hx).chg hch (by simpa using this.2.1) (by simpa using this.2.2.2.2.1)
  · intro p hp
    have := ho.top p hp
    show p < n
    omega

def PushP (w : World) (b : Nat) (s : SS) (h : Array Value) (e : Ending) (w' : World) : Prop :=
  e = .returned (.int .u64 s.n) ∧ ∃ s', StIs w' b s' ∧ PutRel { s with n := s.n + 1 } s' s.n (some h) (s.alive + 1) ∧ Mv (s.foot b) (s'.foot b) w w'

set_option maxRecDepth 100000 in
theorem push_calls (b : Nat) (s : SS) (h : Array Value) (w : World) (hst : StIs w b s) (hh : IsHash h) (hn : s.n < 18446744073709551615) (ha : s.alive < 1099511627776) :
    Calls Try.prog 23 #[.pointer (some ⟨b, 0, none⟩), .agg h] w (PushP w b s h) := by
  have hb := hst.blt
  have hc1 := hst.cell1
  have hf1 := blk_frozen hst.1 1
  have hsz := hh.1
  have hone := hh.one
  have hno : s.node s.n = none := by
    cases h0 : s.node s.n with
    | none => rfl
    | some q => have := hst.2.2.2.2.2.top s.n (by rw [h0]; rfl); omega
  have hlay : ∀ w1, StIs w1 b { s with n := s.n + 1 } → Calls Try.prog 31 #[.pointer (some ⟨b, 0, none⟩), .int .u64 s.n, .agg h] w1 (LayPost w1 b { s with n := s.n + 1 } s.n h) :=
    fun w1 h1 => lay_calls b s.n { s with n := s.n + 1 } h w1 h1 (by omega) hh (by show s.n < s.n + 1; omega) hno ha
  have HS := Lib.hid hst
  clear hst
  go_enter Try.func23, Try.ntmps23
  go_wp2_with (go_at_call 31; refine (hlay _ ?q1).mono ?_; rotate_left 1; rintro e w1 ⟨rfl, s', h1, h2, h3⟩)
  case q1 =>
    have h0 := (HS.out.bump (s.n + 1) (by omega) (by omega)).chg0 ((Chg.refl [] _).alloc (.cells h 32))
    simpa using h0
  go_ret
  refine ⟨rfl, s', h1, h2, ?_, ?_⟩
  · exact ((((Chg.refl (s.foot b) w).setCell (p := ⟨b, 1, none⟩) (by left; simp [SS.foot]) _)).alloc _).trans h3.1 (by intro k hk; left; exact hk)
  · intro k hk
    rcases h3.2 k hk with q | q
    · left; exact q
    · right; simp at q; omega

set_option maxRecDepth 100000 in
theorem drop_far (b p : Nat) (s : SS) (w : World) (hst : StIs w b s) (hp : p < 18446744073709551616) (hn : s.n ≤ p) :
    Calls Try.prog 10 #[.pointer (some ⟨b, 0, none⟩), .int .u64 p] w (Res w [] (.int .i64 31)) := by
  have hc1 := hst.cell1
  go_enter Try.func10, Try.ntmps10
  go_wp2
  go_ret
  exact ⟨rfl, Chg.refl _ _⟩
set_option maxRecDepth 100000 in
theorem drop_pin (b p : Nat) (s : SS) (w : World) (hst : StIs w b s) (hp : p < 18446744073709551616) (hn : p < s.n) (h0 : 0 < s.pin p) :
    Calls Try.prog 10 #[.pointer (some ⟨b, 0, none⟩), .int .u64 p] w (Res w [] (.int .i64 51)) := by
  have hc1 := hst.cell1
  have hc4 := hst.cell4
  have hlk := lookp hst p
  generalize s.pin p = c at *
  go_enter Try.func10, Try.ntmps10
  go_wp2
  go_ret
  exact ⟨rfl, Chg.refl _ _⟩
set_option maxRecDepth 100000 in
theorem drop_dead (b p : Nat) (s : SS) (w : World) (hst : StIs w b s) (hp : p < 18446744073709551616) (hn : p < s.n) (h0 : s.pin p = 0) (hd : s.node p = none) :
    Calls Try.prog 10 #[.pointer (some ⟨b, 0, none⟩), .int .u64 p] w (Res w [] (.int .i64 0)) := by
  have hc1 := hst.cell1
  have hc4 := hst.cell4
  have hlk := lookp hst p
  rw [h0] at hlk
  have hk := kill_dead b p s w hst hp hd
  clear h0 hd
  go_enter Try.func10, Try.ntmps10
  go_wp2_with (go_at_call 29; refine hk.mono ?_; rintro e w1 ⟨rfl, hc⟩)
  go_ret
  exact ⟨rfl, hc⟩
set_option maxRecDepth 100000 in
theorem drop_live (b p : Nat) (s : SS) (w : World) (hst : StIs w b s) (hp : p < 18446744073709551616) (h0 : s.pin p = 0) {h : Array Value} (hd : s.node p = some h) :
    Calls Try.prog 10 #[.pointer (some ⟨b, 0, none⟩), .int .u64 p] w (PutP w b s p none (s.alive - 1) (.int .i64 0)) := by
  have hn := hst.2.2.2.2.2.top p (by rw [hd]; rfl)
  have hc1 := hst.cell1
  have hc4 := hst.cell4
  have hlk := lookp hst p
  rw [h0] at hlk
  have hk := kill_live b p s w hst hp hd
  clear h0 hd
  go_enter Try.func10, Try.ntmps10
  go_wp2_with (go_at_call 29; refine hk.mono ?_; rintro e w1 ⟨rfl, s', h1, h2, h3⟩)
  go_ret
  exact ⟨rfl, s', h1, h2, h3⟩

set_option maxRecDepth 100000 in
theorem back_far (b p : Nat) (s : SS) (h : Array Value) (w : World) (hst : StIs w b s) (hp : p < 18446744073709551616) (hn : s.n ≤ p) :
    Calls Try.prog 11 #[.pointer (some ⟨b, 0, none⟩), .int .u64 p, .agg h] w (Res w [] (.int .i64 31)) := by
  have hb := hst.blt
  have hc1 := hst.cell1
  go_enter Try.func11, Try.ntmps11
  go_wp2
  go_ret
  exact ⟨rfl, (Chg.refl _ _).alloc _⟩
set_option maxRecDepth 100000 in
theorem back_live (b p : Nat) (s : SS) (h : Array Value) (w : World) (hst : StIs w b s) (hp : p < 18446744073709551616) {q : Array Value} (hd : s.node p = some q) :
    Calls Try.prog 11 #[.pointer (some ⟨b, 0, none⟩), .int .u64 p, .agg h] w (Res w [] (.int .i64 53)) := by
  have hn := hst.2.2.2.2.2.top p (by rw [hd]; rfl)
  have hb := hst.blt
  have hc1 := hst.cell1
  obtain ⟨g, o, hf0, _⟩ := node_ptr hst hd
  have hf := Lib.hid hf0
  clear hf0 hd
  go_enter Try.func11, Try.ntmps11
  go_wp2_with (go_at_call 30; refine (find_calls b p s _ (hst.chg0 ((Chg.refl _ _).alloc _)) hp).mono ?_; rintro e w1 ⟨rfl, hc⟩; rw [hf.out])
  go_ret
  exact ⟨rfl, ((Chg.refl _ _).alloc _).nil_trans hc⟩
set_option maxRecDepth 100000 in
theorem back_ok (b p : Nat) (s : SS) (h : Array Value) (w : World) (hst : StIs w b s) (hp : p < 18446744073709551616) (hh : IsHash h) (hn : p < s.n) (hd : s.node p = none) (ha : s.alive < 1099511627776) :
    Calls Try.prog 11 #[.pointer (some ⟨b, 0, none⟩), .int .u64 p, .agg h] w (PutP w b s p (some h) (s.alive + 1) (.int .i64 0)) := by
  have hb := hst.blt
  have hc1 := hst.cell1
  have hsz := hh.1
  have hf := Lib.hid (node_nil hd)
  have hlay : ∀ w1, Chg [] w w1 → Calls Try.prog 31 #[.pointer (some ⟨b, 0, none⟩), .int .u64 p, .agg h] w1 (LayPost w1 b s p h) :=
    fun w1 h1 => lay_calls b p s h w1 (hst.chg0 h1) hp hh hn hd ha
  clear hd
  go_enter Try.func11, Try.ntmps11
  go_wp2_with (first
    | (go_at_call 30; refine (find_calls b p s _ (hst.chg0 ((Chg.refl _ _).alloc _)) hp).mono ?_; rintro e w1 ⟨rfl, hc⟩; rw [hf.out]; have hcw := ((Chg.refl [] w).alloc (.cells h 32)).nil_trans hc; have hbx := rng?_chg hc (rng?_alloc_at w w.heap.size 32 h 32 rfl hsz) (by omega) (by simp))
    | (go_at_call 31; refine (hlay _ hcw).mono ?_; rintro e w2 ⟨rfl, s', h1, h2, h3⟩))
  go_ret
  refine ⟨rfl, s', h1, h2, ?_, ?_⟩
  · exact (hcw.of_nil).trans h3.1 (by intro k hk; exact .inl hk)
  · intro k hk
    rcases h3.2 k hk with q | q
    · left; exact q
    · right; have := hcw.size; omega
end Go.Proofs.Ytgmkmcaekolagaa

/- The store: Push, Drop, Back. -/
import Derived.Test.YtonppfebmeehcaaStL
import Derived.Test.YtonppfebmeehcaaStI
import Derived.Test.YtonppfebmeehcaaStPush
namespace Go.Proofs.Ytonppfebmeehcaa
open Go.RowKit
set_option linter.unusedVariables false
set_option linter.unusedSimpArgs false

set_option maxRecDepth 100000 in
theorem drop_far (b p : Nat) (s : SS) (w : World) (hst : StIs w b s) (hp : p < 18446744073709551616) (hn : s.n ≤ p) :
    Calls Try.prog 48 #[.pointer (some ⟨b, 0, none⟩), .int .u64 p] w (Res w [] (.int .i64 31)) := by
  have hc1 := hst.cell1
  go_enter Try.func48, Try.ntmps48
  go_wp2
  go_ret
  exact ⟨rfl, Chg.refl _ _⟩
set_option maxRecDepth 100000 in
theorem drop_pin (b p : Nat) (s : SS) (w : World) (hst : StIs w b s) (hp : p < 18446744073709551616) (hn : p < s.n) (h0 : 0 < s.pin p) :
    Calls Try.prog 48 #[.pointer (some ⟨b, 0, none⟩), .int .u64 p] w (Res w [] (.int .i64 51)) := by
  have hc1 := hst.cell1
  have hc4 := hst.cell4
  have hlk := lookp hst p
  generalize s.pin p = c at *
  go_enter Try.func48, Try.ntmps48
  go_wp2
  go_ret
  exact ⟨rfl, Chg.refl _ _⟩
set_option maxRecDepth 100000 in
theorem drop_dead (b p : Nat) (s : SS) (w : World) (hst : StIs w b s) (hp : p < 18446744073709551616) (hn : p < s.n) (h0 : s.pin p = 0) (hd : s.node p = none) :
    Calls Try.prog 48 #[.pointer (some ⟨b, 0, none⟩), .int .u64 p] w (Res w [] (.int .i64 0)) := by
  have hc1 := hst.cell1
  have hc4 := hst.cell4
  have hlk := lookp hst p
  rw [h0] at hlk
  have hk := kill_dead b p s w hst hp hd
  clear h0 hd
  go_enter Try.func48, Try.ntmps48
  go_wp2_with (go_at_call 46; refine hk.mono ?_; rintro e w1 ⟨rfl, hc⟩)
  go_ret
  exact ⟨rfl, hc⟩
set_option maxRecDepth 100000 in
theorem drop_live (b p : Nat) (s : SS) (w : World) (hst : StIs w b s) (hp : p < 18446744073709551616) (h0 : s.pin p = 0) {h : Array Value} (hd : s.node p = some h) :
    Calls Try.prog 48 #[.pointer (some ⟨b, 0, none⟩), .int .u64 p] w (PutP w b s p none (s.alive - 1) (.int .i64 0)) := by
  have hn := hst.2.2.2.2.2.top p (by rw [hd]; rfl)
  have hc1 := hst.cell1
  have hc4 := hst.cell4
  have hlk := lookp hst p
  rw [h0] at hlk
  have hk := kill_live b p s w hst hp hd
  clear h0 hd
  go_enter Try.func48, Try.ntmps48
  go_wp2_with (go_at_call 46; refine hk.mono ?_; rintro e w1 ⟨rfl, s', h1, h2, h3⟩)
  go_ret
  exact ⟨rfl, s', h1, h2, h3⟩

set_option maxRecDepth 100000 in
theorem back_far (b p : Nat) (s : SS) (h : Array Value) (w : World) (hst : StIs w b s) (hp : p < 18446744073709551616) (hn : s.n ≤ p) :
    Calls Try.prog 57 #[.pointer (some ⟨b, 0, none⟩), .int .u64 p, .agg h] w (Res w [] (.int .i64 31)) := by
  have hb := hst.blt
  have hc1 := hst.cell1
  go_enter Try.func57, Try.ntmps57
  go_wp2
  go_ret
  exact ⟨rfl, (Chg.refl _ _).alloc _⟩
set_option maxRecDepth 100000 in
theorem back_live (b p : Nat) (s : SS) (h : Array Value) (w : World) (hst : StIs w b s) (hp : p < 18446744073709551616) {q : Array Value} (hd : s.node p = some q) :
    Calls Try.prog 57 #[.pointer (some ⟨b, 0, none⟩), .int .u64 p, .agg h] w (Res w [] (.int .i64 53)) := by
  have hn := hst.2.2.2.2.2.top p (by rw [hd]; rfl)
  have hb := hst.blt
  have hc1 := hst.cell1
  obtain ⟨g, o, hf0, _⟩ := node_ptr hst hd
  have hf := Lib.hid hf0
  clear hf0 hd
  go_enter Try.func57, Try.ntmps57
  go_wp2_with (go_at_call 47; refine (find_calls b p s _ (hst.chg0 ((Chg.refl _ _).alloc _)) hp).mono ?_; rintro e w1 ⟨rfl, hc⟩; rw [hf.out])
  go_ret
  exact ⟨rfl, ((Chg.refl _ _).alloc _).nil_trans hc⟩
set_option maxRecDepth 100000 in
theorem back_ok (b p : Nat) (s : SS) (h : Array Value) (w : World) (hst : StIs w b s) (hp : p < 18446744073709551616) (hh : IsHash h) (hn : p < s.n) (hd : s.node p = none) (ha : s.alive < 1099511627776) :
    Calls Try.prog 57 #[.pointer (some ⟨b, 0, none⟩), .int .u64 p, .agg h] w (PutP w b s p (some h) (s.alive + 1) (.int .i64 0)) := by
  have hb := hst.blt
  have hc1 := hst.cell1
  have hsz := hh.1
  have hf := Lib.hid (node_nil hd)
  have hlay : ∀ w1, Chg [] w w1 → Calls Try.prog 49 #[.pointer (some ⟨b, 0, none⟩), .int .u64 p, .agg h] w1 (LayPost w1 b s p h) :=
    fun w1 h1 => lay_calls b p s h w1 (hst.chg0 h1) hp hh hn hd ha
  clear hd
  go_enter Try.func57, Try.ntmps57
  go_wp2_with (first
    | (go_at_call 47; refine (find_calls b p s _ (hst.chg0 ((Chg.refl _ _).alloc _)) hp).mono ?_; rintro e w1 ⟨rfl, hc⟩; rw [hf.out]; have hcw := ((Chg.refl [] w).alloc (.cells h 30)).nil_trans hc; have hbx := rng?_chg hc (rng?_alloc_at w w.heap.size 32 h 30 rfl hsz) (by omega) (by simp))
    | (go_at_call 49; refine (hlay _ hcw).mono ?_; rintro e w2 ⟨rfl, s', h1, h2, h3⟩))
  go_ret
  refine ⟨rfl, s', h1, h2, ?_, ?_⟩
  · exact (hcw.of_nil).trans h3.1 (by intro k hk; exact .inl hk)
  · intro k hk
    rcases h3.2 k hk with q | q
    · left; exact q
    · right; have := hcw.size; omega
end Go.Proofs.Ytonppfebmeehcaa

/- act, all kinds; whole. -/
import Derived.Test.YtonppfebmeehcaaAcA
import Derived.Test.YtonppfebmeehcaaAcB
import Derived.Test.YtonppfebmeehcaaAcC
import Derived.Test.YtonppfebmeehcaaAcD
import Derived.Test.YtonppfebmeehcaaMgAe
import Derived.Test.YtonppfebmeehcaaAcS
namespace Go.Proofs.Ytonppfebmeehcaa
open Go.RowKit
set_option linter.unusedVariables false
set_option linter.unusedSimpArgs false
section
variable {w w1 w2 : World} {b c m : Nat} {s : SS} {d : DS} {x : AV}
theorem act_calls (h : Tw w b s c d m) (hm : m ≤ 1000) (hx : x.ok w) (hkl : x.kl.length ≤ 1000) (hfr : 0 < x.kl.length → ∀ k ∈ feet b s c d, ∀ g o, x.a = some ⟨g, o, none⟩ → k ≠ g) : Calls Try.prog 37 #[.pointer (some ⟨b, 0, none⟩), .pointer (some ⟨c, 0, none⟩), .agg x.cells] w (ActP w b s c d m) := by
  by_cases e1 : x.what = 1
  · exact act_push h hm hx e1
  by_cases e2 : x.what = 2
  · exact act_get h hm hx e2
  by_cases e3 : x.what = 3
  · exact act_pin h hm hx e3
  by_cases e4 : x.what = 4
  · exact act_unpin h hm hx e4
  by_cases e5 : x.what = 5
  · exact act_drop h hm hx e5
  by_cases e6 : x.what = 6
  · exact act_sweep h hm hx hkl hfr e6
  by_cases e7 : x.what = 7
  · exact act_back h hm hx e7
  by_cases e8 : x.what = 8
  · exact act_cut h hm hx e8
  by_cases e9 : x.what = 9
  · exact act_num h hm hx e9
  by_cases e10 : x.what = 10
  · exact act_all h hm hx e10
  by_cases e11 : x.what = 11
  · exact act_till h hm hx e11
  exact act_none h hm hx (fun k h1 h2 e => by
    have : k = 1 ∨ k = 2 ∨ k = 3 ∨ k = 4 ∨ k = 5 ∨ k = 6 ∨ k = 7 ∨ k = 8 ∨ k = 9 ∨ k = 10 ∨ k = 11 := by omega
    rcases this with rfl | rfl | rfl | rfl | rfl | rfl | rfl | rfl | rfl | rfl | rfl <;> contradiction)
set_option maxRecDepth 100000 in
theorem whole_calls (h : Tw w b s c d m) (hm : m ≤ 1000) : Calls Try.prog 38 #[.pointer (some ⟨b, 0, none⟩), .pointer (some ⟨c, 0, none⟩)] w (Res w [] (.bool true)) := by
  have hlen : d.ns.length ≤ 1000 := by have := h.same.n; have := h.n; omega
  have q1 := fun W (hc : Chg [] w W) p hp => alike_calls (p := p) (h.chg0 hc) hp
  have q2 := fun W (hc : Chg [] w W) => rlen_calls c d W (h.rf.chg0 hc)
  have q3 := fun W (hc : Chg [] w W) => numbers_calls (h.chg0 hc)
  have q4 := fun W (hc : Chg [] w W) => told_calls (h.chg0 hc) hm 0 (by omega)
  clear h
  generalize d.ns.length = N at *
  go_enter Try.func38, Try.ntmps38
  go_wp2_with fail
  go_loopg [5] (N + 2) (fun m i wr => ∃ k : Nat, k ≤ N + 2 ∧ m = N + 2 - k ∧ i = .int .u64 k ∧ Chg [] w wr)
  case atStart => exact ⟨0, Nat.zero_le _, by omega, rfl, Chg.refl _ _⟩
  case round =>
    obtain ⟨k, hk, hgk, rfl, hc⟩ := hrel
    have hcz := hc.size
    by_cases hlt : k < N + 2
    · have q1' := fun W (hc : Chg [] w W) => q1 W hc k (by omega)
      have dn : decide ((k : Int) < (N : Int) + 2) = true := by simp; omega
      clear q1 q3 q4
      go_wp2_with (first
        | (go_at_call 62; refine (q2 _ (by assumption)).mono ?_; rintro e w1 ⟨rfl, hc1⟩; replace hc := hc.nil_trans hc1; clear hc1)
        | (go_at_call 51; refine (q1' _ (by assumption)).mono ?_; rintro e w1 ⟨rfl, hc1⟩; replace hc := hc.nil_trans hc1; clear hc1))
      go_roundg (N + 2 - (k + 1))
      case measure => omega
      case rel => exact ⟨k + 1, by omega, rfl, by go_num, hc⟩
    · obtain rfl : k = N + 2 := by omega
      have dn : decide (((N : Int) + 2) < (N : Int) + 2) = false := by simp
      clear q1
      go_wp2_with (first
        | (go_at_call 62; refine (q2 _ (by assumption)).mono ?_; rintro e w1 ⟨rfl, hc1⟩; replace hc := hc.nil_trans hc1; clear hc1)
        | (go_at_call 60; refine (q3 _ (by assumption)).mono ?_; rintro e w1 ⟨rfl, hc1⟩; replace hc := hc.nil_trans hc1; clear hc1)
        | (go_at_call 61; refine (q4 _ (by assumption)).mono ?_; rintro e w1 ⟨rfl, hc1⟩; replace hc := hc.nil_trans hc1; clear hc1))
      go_ret
      exact ⟨rfl, hc⟩
end
end Go.Proofs.Ytonppfebmeehcaa

/- The trees' statements: 'of', 'same' walked. -/
import Derived.Test.YtnodjlgihhinpaaDoorLwC
namespace Go.Proofs.YtnodjlgihhinpaaDoor
open Go.RowKit
set_option linter.unusedVariables false
set_option linter.unusedSimpArgs false

theorem HsIs.chg0 {w w' : World} {v : Value} {hs : List (Array Value)} (h : HsIs w v hs) (hc : Chg [] w w') : HsIs w' v hs := h.chg hc (by simp)
set_option maxRecDepth 100000 in
theorem same_calls (w : World) (va vb : Value) (l : List (Array Value)) (ha : HsIs w va l) (hb : HsIs w vb l) (hlen : l.length ≤ 1000000) : Calls Tryd.prog 9 #[va, vb] w (Res w [] (.bool true)) := by
  obtain ⟨hI, a, cap, rfl, hr⟩ := ha
  obtain ⟨_, b, cap2, rfl, hr2⟩ := hb
  go_enter Tryd.func9, Tryd.ntmps9
  go_wp2
  obtain ⟨wo, rfl⟩ : ∃ wo : World, wo = w := ⟨_, rfl⟩
  go_loopg [5] l.length (fun g ii wx => ∃ n : Nat, n ≤ l.length ∧ g = l.length - n ∧ ii = .int .i64 n ∧ Chg [] wo wx)
  case atStart => exact ⟨0, by omega, by omega, rfl, Chg.refl _ _⟩
  case round =>
    obtain ⟨n, hnl, hg, rfl, hC⟩ := hrel
    by_cases hlt : n < l.length
    · have hlt' : n < l.length := hlt
      rcases hr with hr | ⟨pb, po, rfl, hpb, hr⟩
      · subst hr; simp at hlt'
      rcases hr2 with hr2 | ⟨qb, qo, rfl, hqb, hr2⟩
      · subst hr2; simp at hlt'
      have r1 := rng?_chg hC (hr n hlt') (by omega) (by simp)
      have r2 := rng?_chg hC (hr2 n hlt') (by omega) (by simp)
      have hI1 := hI _ (List.getElem_mem hlt')
      have l1 := World.block_lt_of_cell? _ _ ((rng?_cell r1).2 0 (by rw [(rng?_cell r1).1]; omega))
      have l2 := World.block_lt_of_cell? _ _ ((rng?_cell r2).2 0 (by rw [(rng?_cell r2).1]; omega))
      have heq : eqH l[n] l[n] = true := eqH_self
      have n0 : (0 : Int) ≤ (n : Int) := by omega
      have n1 : (n : Int) < (l.length : Int) := by omega
      have hs1 := hI1.1
      have hs2 := hI1.one
      have HG := Lib.hid hg
      clear hg hI hr hr2
      generalize l[n] = x at *
      go_upto_region 6 with (fail)
      go_quiet (fail)
      go_wp2
      go_roundg (l.length - (n + 1))
      case measure => rw [HG.out]; omega
      case rel => exact ⟨n + 1, by omega, rfl, by go_num, hC.drewN _⟩
    · obtain rfl : n = l.length := by omega
      clear hg hr hr2
      go_wp2
      go_ret
      exact ⟨rfl, hC⟩
def OfP (w : World) (wd : Int) (ls : List (Array Value)) (e : Ending) (w' : World) : Prop := ∃ b t, e = .returned (.tuple #[.pointer (some ⟨b, 0, none⟩), .bool true]) ∧ TreeOf w w' b t wd ls
set_option maxRecDepth 100000 in
theorem of_calls (w : World) (wd : Int) (hwd : -9223372036854775808 ≤ wd ∧ wd < 9223372036854775808) (lv : Value) (ls : List (Array Value)) (hv : HsIs w lv ls) (hlen : ls.length ≤ 100000) (hk : HIs w) :
    Calls Tryd.prog 14 #[.int .i64 wd, lv] w (OfP w wd ls) := by
  obtain ⟨hI, a, cap, rfl, hr⟩ := hv
  have hnew := tnew_ok w wd hwd 3 (by omega) hk
  rw [show ((3 : Nat) : Int) = 3 from rfl] at hnew
  obtain ⟨wo, rfl⟩ : ∃ wo : World, wo = w := ⟨_, rfl⟩
  go_enter Tryd.func14, Tryd.ntmps14
  go_wp2_with (go_at_call 24; refine hnew.mono ?_; rintro e w1 ⟨b, t, rfl, h1, h2, h3, h4, h5, h6, h7, h8, h9⟩)
  have hT0 : TreeOf wo w1 b t wd [] := TreeOf.zero h1 h2 h3 h4 h5 h6 h7
  clear hnew h1 h2 h3 h4 h5 h6 h7 h8 h9
  go_loopg [8] ls.length (fun g ii wx => ∃ (k : Nat) (t : TS), k ≤ ls.length ∧ g = ls.length - k ∧ ii = .int .i64 k ∧ TreeOf wo wx b t wd (ls.take k))
  case atStart => exact ⟨0, t, by omega, by omega, rfl, by rw [List.take_zero]; exact hT0⟩
  case round =>
    clear hT0
    obtain ⟨k, t, hkl, hg, rfl, hT⟩ := hrel
    by_cases hlt : k < ls.length
    · have hlt' : k < ls.length := hlt
      rcases hr with hr | ⟨pb, po, rfl, hpb, hr⟩
      · subst hr; simp at hlt'
      have hrow := rng?_chg hT.chg (hr k hlt') (by omega) (by simp)
      have hlk := World.block_lt_of_cell? _ _ ((rng?_cell hrow).2 0 (by rw [(rng?_cell hrow).1]; omega))
      have hIk := hI ls[k] (List.getElem_mem hlt')
      have htl : (ls.take k).length = k := by rw [List.length_take]; omega
      have htk : ls.take k ++ [ls[k]] = ls.take (k + 1) := (List.take_succ_eq_append_getElem hlt').symm
      have happ := hT.call hIk (hk.chg0 hT.chg) (by omega)
      have hnx : ∀ e w2, TreeApp wo wr b t wd (ls.take k) ls[k] e w2 → e = .returned (.int .u64 k) ∧ ∃ t', TreeOf wo w2 b t' wd (ls.take (k + 1)) := by
        rintro e w2 ⟨he, t', h1, _, _⟩
        exact ⟨by rw [he, htl], t', by rw [← htk]; exact h1⟩
      have HAP := Lib.hid happ
      have HNX := Lib.hid hnx
      have HG := Lib.hid hg
      have hk300 : k < 100000 := by omega
      have hI1 := hIk.1
      have hI2 := hIk.one
      clear happ hnx htk htl hg hr hI hT
      generalize ls[k] = x at *
      go_wp2_with (go_at_call 25; refine HAP.out.mono ?_; intro e w4 hp; obtain ⟨he, t', h1⟩ := HNX.out e w4 hp; subst he)
      go_roundg (ls.length - (k + 1))
      case measure => rw [HG.out]; omega
      case rel => exact ⟨k + 1, t', by omega, rfl, by go_num, h1⟩
    · obtain rfl : k = ls.length := by omega
      rw [List.take_length] at hT
      clear hg hr
      go_wp2
      go_ret2
      exact ⟨b, t, rfl, hT⟩
end Go.Proofs.YtnodjlgihhinpaaDoor

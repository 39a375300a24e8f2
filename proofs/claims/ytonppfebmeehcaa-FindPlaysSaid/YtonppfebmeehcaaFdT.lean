/- SameNumbers, SameHashes at equal lists; 'same' of the finds' statements walked. -/
import Derived.Test.YtonppfebmeehcaaFdS
import Derived.Test.YtonppfebmeehcaaFdK
namespace Go.Proofs.Ytonppfebmeehcaa
open Go.RowKit
set_option linter.unusedVariables false
set_option linter.unusedSimpArgs false

set_option maxRecDepth 100000 in
theorem sameN_calls (w : World) (B B2 : Nat) (va vb : Value) (l : List Nat) (ha : UOwn w B va l) (hb : UOwn w B2 vb l) (hlen : l.length ≤ 1000000) : Calls Try.prog 39 #[va, vb] w (Res w [] (.bool true)) := by
  obtain ⟨a, cap, rfl, hr⟩ := ha.nis
  obtain ⟨b, cap2, rfl, hr2⟩ := hb.nis
  clear ha hb
  have HR := Lib.hid hr
  have HR2 := Lib.hid hr2
  clear hr hr2
  go_enter Try.func39, Try.ntmps39
  go_wp2
  obtain ⟨wo, rfl⟩ : ∃ wo : World, wo = w := ⟨_, rfl⟩
  go_loopg [5] l.length (fun g ii wx => ∃ n : Nat, n ≤ l.length ∧ g = l.length - n ∧ ii = .int .i64 n ∧ Chg [] wo wx)
  case atStart => exact ⟨0, by omega, by omega, rfl, Chg.refl _ _⟩
  case round =>
    obtain ⟨n, hnl, hg, rfl, hC⟩ := hrel
    by_cases hlt : n < l.length
    · have hlt' : n < l.length := hlt
      rcases HR.out with hr | ⟨pb, rfl, hpb, _, hr⟩
      · subst hr; simp at hlt'
      rcases HR2.out with hr2 | ⟨qb, rfl, hqb, _, hr2⟩
      · subst hr2; simp at hlt'
      have r1 := (hC.cell (p := ⟨pb, n, none⟩) hpb (by simp)).trans (hr n hlt')
      have r2 := (hC.cell (p := ⟨qb, n, none⟩) hqb (by simp)).trans (hr2 n hlt')
      have l1 := World.block_lt_of_cell? _ _ r1
      have l2 := World.block_lt_of_cell? _ _ r2
      have n0 : (0 : Int) ≤ (n : Int) := by omega
      have n1 : (n : Int) < (l.length : Int) := by omega
      have HG := Lib.hid hg
      clear hg hr hr2
      generalize l[n] = x at *
      have ex : ((x : Int) != (x : Int)) = false := by simp
      go_upto_region 6 with (fail)
      go_quiet (fail)
      go_wp2
      go_roundg (l.length - (n + 1))
      case measure => rw [HG.out]; omega
      case rel => exact ⟨n + 1, by omega, rfl, by go_num, hC.drewN _⟩
    · obtain rfl : n = l.length := by omega
      clear hg
      go_wp2
      go_ret
      exact ⟨rfl, hC⟩
set_option maxRecDepth 100000 in
theorem sameH_calls (w : World) (va vb : Value) (l : List (Array Value)) (ha : HsIs w va l) (hb : HsIs w vb l) (hlen : l.length ≤ 1000000) : Calls Try.prog 43 #[va, vb] w (Res w [] (.bool true)) := by
  obtain ⟨hI, a, cap, rfl, hr⟩ := ha
  obtain ⟨_, b, cap2, rfl, hr2⟩ := hb
  go_enter Try.func43, Try.ntmps43
  go_wp2
  obtain ⟨wo, rfl⟩ : ∃ wo : World, wo = w := ⟨_, rfl⟩
  go_loopg [5] l.length (fun g ii wx => ∃ n : Nat, n ≤ l.length ∧ g = l.length - n ∧ ii = .int .i64 n ∧ Chg [] wo wx)
  case atStart => exact ⟨0, by omega, by omega, rfl, Chg.refl _ _⟩
  case round =>
    obtain ⟨n, hnl, hg, rfl, hC⟩ := hrel
    by_cases hlt : n < l.length
    · have hlt' : n < l.length := hlt
      rcases hr with hr | ⟨pb, po, rfl, hpb, hr⟩
      · subst hr; simp at hlt'
      rcases hr2 with hr2 | ⟨qb, qo, rfl, hqb, hr2⟩
      · subst hr2; simp at hlt'
      have r1 := rng?_chg hC (hr n hlt') (by omega) (by simp)
      have r2 := rng?_chg hC (hr2 n hlt') (by omega) (by simp)
      have hI1 := hI _ (List.getElem_mem hlt')
      have l1 := World.block_lt_of_cell? _ _ ((rng?_cell r1).2 0 (by rw [(rng?_cell r1).1]; omega))
      have l2 := World.block_lt_of_cell? _ _ ((rng?_cell r2).2 0 (by rw [(rng?_cell r2).1]; omega))
      have heq : eqH l[n] l[n] = true := eqH_self
      have n0 : (0 : Int) ≤ (n : Int) := by omega
      have n1 : (n : Int) < (l.length : Int) := by omega
      have hs1 := hI1.1
      have hs2 := hI1.one
      have HG := Lib.hid hg
      clear hg hI hr hr2
      generalize l[n] = x at *
      go_upto_region 6 with (fail)
      go_quiet (fail)
      go_wp2
      go_roundg (l.length - (n + 1))
      case measure => rw [HG.out]; omega
      case rel => exact ⟨n + 1, by omega, rfl, by go_num, hC.drewN _⟩
    · obtain rfl : n = l.length := by omega
      clear hg hr hr2
      go_wp2
      go_ret
      exact ⟨rfl, hC⟩

/-! A row written over. -/
theorem own_put {w : World} {base : Nat} {e : TypeId} {n cap g : Nat} {xs : List Value} (h : w.ownsRow base e 1 (.slice (some ⟨g, 0, none⟩) n cap) n xs) {i : Nat} (hi : i < n) (x : Value) :
    (w.setCell ⟨g, i, none⟩ x).ownsRow base e 1 (.slice (some ⟨g, 0, none⟩) n cap) n (xs.set i x) := by
  obtain ⟨hl, ⟨hv, _⟩ | ⟨g', cap', cur, hv, hb, hh, hnc, hm, hcs, ht⟩⟩ := h
  · cases hv
  · injection hv with e1 e2 e3
    injection e1 with e1
    injection e1 with e1
    subst e1 e3
    refine ⟨by simpa using hl, .inr ⟨g, cap, _, rfl, hb, blk_set hh i x, hnc, hm, by simpa using hcs, ?_⟩⟩
    rw [Array.toList_setIfInBounds, List.take_set, ht]
theorem own_cellx {w : World} {base : Nat} {e : TypeId} {n cap g : Nat} {xs : List Value} (h : w.ownsRow base e 1 (.slice (some ⟨g, 0, none⟩) n cap) n xs) {i : Nat} (hi : i < n) : ∃ v, xs[i]? = some v ∧ w.cell? ⟨g, i, none⟩ = some v ∧ w.frozen? ⟨g, i, none⟩ = false ∧ g < w.heap.size := by
  obtain ⟨hl, ⟨hv, _⟩ | ⟨g', cap', cur, hv, hb, hh, hnc, hm, hcs, ht⟩⟩ := h
  · cases hv
  · injection hv with e1 e2 e3
    injection e1 with e1
    injection e1 with e1
    subst e1 e3
    have hil : i < xs.length := by omega
    refine ⟨xs[i], List.getElem?_eq_getElem hil, blk_cell hh i ?_, blk_frozen hh i, blk_lt hh⟩
    have q := congrArg (fun l => l[i]?) ht
    simp only [List.getElem?_take, Nat.mul_one, if_pos hi, List.getElem?_eq_getElem hil] at q
    simpa using q
/-- Overwritten with x up to k. -/
def over (x k : Nat) (l : List Nat) : List Nat := List.replicate k x ++ l.drop k
theorem over_zero (x : Nat) (l : List Nat) : over x 0 l = l := by simp [over]
theorem over_len (x k : Nat) (l : List Nat) (hk : k ≤ l.length) : (over x k l).length = l.length := by simp [over]; omega
theorem over_all (x : Nat) (l : List Nat) : over x l.length l = List.replicate l.length x := by simp [over]
theorem over_set (x k : Nat) (l : List Nat) (hk : k < l.length) : (over x k l).set k x = over x (k + 1) l := by
  unfold over
  rw [List.set_append_right _ _ (by simp)]
  simp only [List.length_replicate, Nat.sub_self]
  rw [List.drop_eq_getElem_cons hk, List.set_cons_zero, List.replicate_succ', List.append_assoc]
  rfl
theorem UOwn.over {w : World} {B g cap x k n : Nat} {l : List Nat} (h : UOwn w B (.slice (some ⟨g, 0, none⟩) n cap) (over x k l)) (hn : n = l.length) (hk : k < l.length) : UOwn (w.setCell ⟨g, k, none⟩ (.int .u64 (x : Nat))) B (.slice (some ⟨g, 0, none⟩) n cap) (Go.Proofs.Ytonppfebmeehcaa.over x (k + 1) l) := by
  have hl := over_len x k l (by omega)
  unfold UOwn at h ⊢
  rw [over_len x (k + 1) l (by omega), ← hn]
  rw [hl, ← hn] at h
  have := own_put h (i := k) (by omega) (.int .u64 (x : Nat))
  rw [← over_set x k l hk, List.map_set]
  exact this
end Go.Proofs.Ytonppfebmeehcaa

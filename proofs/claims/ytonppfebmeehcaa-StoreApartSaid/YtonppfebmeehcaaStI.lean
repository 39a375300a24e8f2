/- The store: Unpin. -/
import Derived.Test.YtonppfebmeehcaaStH
namespace Go.Proofs.Ytonppfebmeehcaa
open Go.RowKit
set_option linter.unusedVariables false
set_option linter.unusedSimpArgs false

theorem pdel_put (l : List (Nat × Nat)) (p c : Nat) : pdel (pput l p c) p = pdel l p := by
  unfold pput
  split
  · rename_i hs
    clear hs
    unfold pdel
    induction l with
    | nil => rfl
    | cons x l ih =>
      by_cases h : x.1 = p
      · simp [h]
        simpa using ih
      · simp [h]
        simpa using ih
  · simp [pdel]
def unp (l : List (Nat × Nat)) (p c : Nat) : List (Nat × Nat) := if c ≤ 1 then pdel l p else pput l p (c - 1)
theorem pin_unp (s : SS) (p q : Nat) : ({ s with pins := unp s.pins p (s.pin p) } : SS).pin q = if q = p then s.pin p - 1 else s.pin q := by
  unfold unp
  split
  · rw [pin_del]
    by_cases e : q = p
    · rw [if_pos e, if_pos e]; omega
    · rw [if_neg e, if_neg e]
  · rw [pin_put]

set_option maxRecDepth 100000 in
theorem unpin_far (b p : Nat) (s : SS) (w : World) (hst : StIs w b s) (hp : p < 18446744073709551616) (hn : s.n ≤ p) :
    Calls Try.prog 53 #[.pointer (some ⟨b, 0, none⟩), .int .u64 p] w (Res w [] (.int .i64 31)) := by
  have hc1 := hst.cell1
  go_enter Try.func53, Try.ntmps53
  go_wp2
  go_ret
  exact ⟨rfl, Chg.refl _ _⟩
set_option maxRecDepth 100000 in
theorem unpin_none (b p : Nat) (s : SS) (w : World) (hst : StIs w b s) (hp : p < 18446744073709551616) (hn : p < s.n) (h0 : s.pin p = 0) :
    Calls Try.prog 53 #[.pointer (some ⟨b, 0, none⟩), .int .u64 p] w (Res w [] (.int .i64 52)) := by
  have hc1 := hst.cell1
  have hc4 := hst.cell4
  have hlk := lookp hst p
  rw [h0] at hlk
  clear h0
  go_enter Try.func53, Try.ntmps53
  go_wp2
  go_ret
  exact ⟨rfl, Chg.refl _ _⟩
theorem pin_lt {s : SS} (hok : s.ok) (p : Nat) : s.pin p < 4294967296 := by
  unfold SS.pin
  cases h : s.pins.find? fun x => decide (x.1 = p) with
  | none => simp
  | some x =>
    have := (hok.pin x (List.mem_of_find?_eq_some h)).2
    simpa using this
set_option maxRecDepth 100000 in
theorem unpin_ok (b p : Nat) (s : SS) (w : World) (hst : StIs w b s) (hp : p < 18446744073709551616) (hn : p < s.n) (h0 : 0 < s.pin p) :
    Calls Try.prog 53 #[.pointer (some ⟨b, 0, none⟩), .int .u64 p] w (StP w b { s with pins := unp s.pins p (s.pin p) } [s.pm] (.int .i64 0)) := by
  have hc1 := hst.cell1
  have hc4 := hst.cell4
  have hlk := lookp hst p
  have hlt := pin_lt hst.2.2.2.2.2 p
  generalize hc : s.pin p = c at *
  obtain ⟨o, hu0, hm0⟩ := hst.2.2.1.upd encU_law u_mapp p (.int .i64 ((c - 1 : Nat) : Int))
  have hcc : ((c - 1 : Nat) : Int) = (c : Int) - 1 := by omega
  rw [hcc] at hu0
  have hup : (Instr.mapUpdate 78 (.map (some s.pm)) (.int .u64 p) (.int .i64 (c - 1))).run Try.prog w = .ok () (setMap w s.pm o) := hu0
  have hm1 : MapIs encU (setMap w s.pm o) s.pm (pv (pput s.pins p (c - 1))) := by rw [← pv_put]; exact hm0
  have hch : Chg [s.pm] w (setMap w s.pm o) := setMap_chg _ _ _
  have hbF : b ∉ [s.pm] := by simpa using hst.2.2.2.2.1.head.2.1
  have hc4' : (setMap w s.pm o).cell? ⟨b, 4, none⟩ = some (.map (some s.pm)) := by rw [hch.cell (p := ⟨b, 4, none⟩) hst.blt hbF]; exact hc4
  have hget : (mget (pv (pput s.pins p (c - 1))) p).getD (.int .i64 0) = .int .i64 (c - 1) := by
    rw [← pv_put, mget_put, if_pos rfl, hcc]; rfl
  have hlk' : (Instr.lookup 78 (.map (some s.pm)) (.int .u64 p) false).run Try.prog (setMap w s.pm o) = .ok (.int .i64 (c - 1)) (setMap w s.pm o) := by
    have := hm1.look encU_law u_mapp z_int p false
    rw [hget] at this
    exact this
  clear hget hu0 hm0
  by_cases h1 : c = 1
  · have hlk2 : (Instr.lookup 78 (.map (some s.pm)) (.int .u64 p) false).run Try.prog (setMap w s.pm o) = .ok (.int .i64 0) (setMap w s.pm o) := by rw [hlk', h1]; rfl
    have hdel : ∃ o2, (∀ ty, (deX #[78, 31] ty #[.map (some s.pm), .int .u64 p]).run Try.prog (setMap w s.pm o) = .ok (.tuple #[]) (setMap (setMap w s.pm o) s.pm o2)) ∧ MapIs encU (setMap (setMap w s.pm o) s.pm o2) s.pm (pv (pdel s.pins p)) := by
      obtain ⟨o2, h2, h3⟩ := hm1.del encU_law u_mapp p 0
      rw [pv_del, pdel_put] at h3
      exact ⟨o2, fun ty => h2, h3⟩
    obtain ⟨o2, hd, hm2⟩ := hdel
    have hpins : Hid (unp s.pins p c = pdel s.pins p) := by unfold Hid unp; rw [if_pos (by omega)]
    clear hlk' hcc
    have hc01 : (c : Int) = 1 := by omega
    have hlk0 : (Instr.lookup 78 (.map (some s.pm)) (.int .u64 p) false).run Try.prog w = .ok (.int .i64 1) w := by rw [hlk, hc01]
    have hup0 : (Instr.mapUpdate 78 (.map (some s.pm)) (.int .u64 p) (.int .i64 0)).run Try.prog w = .ok () (setMap w s.pm o) := by rw [← hup, hc01]; rfl
    clear hlk hup hc01 h1 hc h0 hlt
    go_enter Try.func53, Try.ntmps53
    go_wp2
    go_ret
    rw [hpins.out]
    refine ⟨rfl, hst.withPins _ (hch.trans (setMap_chg _ _ _) (by simp)) hm2 ?_, hch.trans (setMap_chg _ _ _) (by simp)⟩
    intro x hx
    exact hst.2.2.2.2.2.pin x (List.mem_filter.1 hx |>.1)
  · have hpins : Hid (unp s.pins p c = pput s.pins p (c - 1)) := by unfold Hid unp; rw [if_neg (by omega)]
    have hne : ((c : Int) == 0) = false := by simp; omega
    have hne2 : ((c : Int) - 1 == 0) = false := by simp; omega
    clear hcc hc
    go_enter Try.func53, Try.ntmps53
    go_wp2
    go_ret
    rw [hpins.out]
    refine ⟨rfl, hst.withPins _ hch hm1 ?_, hch⟩
    intro x hx
    rcases mem_pput hx with rfl | hx
    · simp; omega
    · exact hst.2.2.2.2.2.pin x hx
end Go.Proofs.Ytonppfebmeehcaa

/- The laws of the loom: the same moves, the same numbers; New refusing; two. -/
import Derived.Test.YtfmdghijbkddpaaLmRd
import Derived.Test.YtfmdghijbkddpaaLmG
namespace Go.Proofs.Ytfmdghijbkddpaa
open Go.RowKit
set_option linter.unusedVariables false
set_option linter.unusedSimpArgs false

set_option maxRecDepth 100000 in
theorem list_calls (w : World) (v u : Value) (l : List Nat) (hl : l.length ≤ 100000) (hv : RowIs w 3 1 v l.length (iCells l)) (hu : RowIs w 3 1 u l.length (iCells l)) :
    Calls Try.prog 31 #[v, u] w fun e w' => e = .returned (.bool true) ∧ Chg [] w w' := by
  obtain ⟨va, vc, rfl, _⟩ := hv.slice
  obtain ⟨ua, uc, rfl, _⟩ := hu.slice
  have HV := Lib.hid hv
  have HU := Lib.hid hu
  clear hv hu
  go_enter Try.func31, Try.ntmps31
  go_upto_region 4 with (fail)
  go_loopg [5] l.length (fun g ii wx => ∃ i : Nat, i ≤ l.length ∧ g = l.length - i ∧ ii = .int .i64 i ∧ Chg [] w wx)
  case atStart => exact ⟨0, by omega, by omega, rfl, Chg.refl _ _⟩
  case round =>
    obtain ⟨i, hi, hgi, rfl, hcw⟩ := hrel
    by_cases hlt : i < l.length
    · have hlt' : i < l.length := hlt
      have hv := HV.out.chg0 hcw
      have hu := HU.out.chg0 hcw
      obtain ⟨vg, vo, vcc, hve, _, _⟩ := hv.ptr (by omega)
      obtain ⟨ug, uo, ucc, hue, _, _⟩ := hu.ptr (by omega)
      simp only [Value.slice.injEq, true_and] at hve hue
      obtain ⟨rfl, rfl⟩ := hve
      obtain ⟨rfl, rfl⟩ := hue
      have hx : (iCells l)[i]? = some (.int .i64 l[i]) := by unfold iCells; rw [List.getElem?_map, List.getElem?_eq_getElem hlt']; rfl
      have y1 := hv.cell hx
      have y2 := hu.cell hx
      have z1 := World.block_lt_of_cell? _ _ y1
      have z2 := World.block_lt_of_cell? _ _ y2
      clear hv hu hx
      generalize l[i] = x at *
      go_upto_region 6 with (fail)
      go_quiet (fail)
      go_wp2
      go_roundg (l.length - (i + 1))
      case measure => omega
      case rel => exact ⟨i + 1, by omega, rfl, by go_num, hcw.drewN _⟩
    · obtain rfl : i = l.length := by omega
      go_wp2
      go_ret
      exact ⟨rfl, hcw⟩
set_option maxRecDepth 100000 in
theorem same_calls (w : World) (v u : Value) (l : List Mv) (hl : l.length ≤ 100000) (hv : RowIs w 31 3 v l.length (mCells l)) (hu : RowIs w 31 3 u l.length (mCells l)) :
    Calls Try.prog 46 #[v, u] w fun e w' => e = .returned (.bool true) ∧ Chg [] w w' := by
  obtain ⟨va, vc, rfl, _⟩ := hv.slice
  obtain ⟨ua, uc, rfl, _⟩ := hu.slice
  have HV := Lib.hid hv
  have HU := Lib.hid hu
  clear hv hu
  go_enter Try.func46, Try.ntmps46
  go_upto_region 4 with (fail)
  go_loopg [5] l.length (fun g ii wx => ∃ i : Nat, i ≤ l.length ∧ g = l.length - i ∧ ii = .int .i64 i ∧ Chg [] w wx)
  case atStart => exact ⟨0, by omega, by omega, rfl, Chg.refl _ _⟩
  case round =>
    obtain ⟨i, hi, hgi, rfl, hcw⟩ := hrel
    by_cases hlt : i < l.length
    · have hlt' : i < l.length := hlt
      have hv := HV.out.chg0 hcw
      have hu := HU.out.chg0 hcw
      obtain ⟨vg, vo, vcc, hve, _, _⟩ := hv.ptr (by omega)
      obtain ⟨ug, uo, ucc, hue, _, _⟩ := hu.ptr (by omega)
      simp only [Value.slice.injEq, true_and] at hve hue
      obtain ⟨rfl, rfl⟩ := hve
      obtain ⟨rfl, rfl⟩ := hue
      obtain ⟨x1, x2, x3⟩ := mCells_at l i hlt'
      have y1 := hv.cell x1
      have y2 := hv.cell x2
      have y3 := hv.cell x3
      have t1 := hu.cell x1
      have t2 := hu.cell x2
      have t3 := hu.cell x3
      rw [← Nat.add_assoc] at y2 y3 t2 t3
      have z1 := World.block_lt_of_cell? _ _ y1
      have z2 := World.block_lt_of_cell? _ _ t1
      clear hv hu x1 x2 x3
      generalize l[i] = m at *
      obtain ⟨mk, mw, mj⟩ := m
      dsimp only at y1 y2 y3 t1 t2 t3
      go_upto_region 6 with (fail)
      go_quiet (fail)
      go_wp2
      go_roundg (l.length - (i + 1))
      case measure => omega
      case rel => exact ⟨i + 1, by omega, rfl, by go_num, hcw.drewN _⟩
    · obtain rfl : i = l.length := by omega
      go_wp2
      go_ret
      exact ⟨rfl, hcw⟩

def mayP (a j r : Int) : Prop := 1 ≤ a ∧ a ≤ 64 ∧ 0 ≤ j ∧ j ≤ 65536 ∧ 0 ≤ r ∧ r ≤ 65536
theorem may_no (a j r : Int) (w : World) (h : ¬ mayP a j r) : Calls Try.prog 32 #[.int .i64 a, .int .i64 j, .int .i64 r] w fun e w' => e = .returned (.bool false) ∧ w' = w := by
  have hP : (a < 1) ∨ (1 ≤ a ∧ 64 < a) ∨ (1 ≤ a ∧ a ≤ 64 ∧ j < 0) ∨ (1 ≤ a ∧ a ≤ 64 ∧ 0 ≤ j ∧ 65536 < j) ∨ (1 ≤ a ∧ a ≤ 64 ∧ 0 ≤ j ∧ j ≤ 65536 ∧ r < 0) ∨ (1 ≤ a ∧ a ≤ 64 ∧ 0 ≤ j ∧ j ≤ 65536 ∧ 0 ≤ r ∧ 65536 < r) := by
    unfold mayP at h
    omega
  clear h
  rcases hP with h | ⟨h1, h2⟩ | ⟨h1, h2, h3⟩ | ⟨h1, h2, h3, h4⟩ | ⟨h1, h2, h3, h4, h5⟩ | ⟨h1, h2, h3, h4, h5, h6⟩
  all_goals
    go_enter Try.func32, Try.ntmps32
    go_wp2
    go_ret
    refine ⟨?_, rfl⟩
    first
      | rfl
      | (show Ending.returned (.bool (decide (r ≤ 65536))) = _
         rw [decide_eq_false (by omega)])
theorem new_no (a j r : Int) (w : World) (h : ¬ mayP a j r) : Calls Try.prog 11 #[.int .i64 a, .int .i64 j, .int .i64 r] w fun e w' => e = .returned (.tuple #[.pointer none, .int .i64 1]) ∧ w' = w := by
  go_enter Try.func11, Try.ntmps11
  go_wp2_with (go_at_call 32; refine (may_no _ _ _ _ h).mono ?_; rintro e w1 ⟨rfl, rfl⟩)
  go_ret2
  exact ⟨rfl, rfl⟩
theorem rnew_no (a j r : Int) (w : World) (h : ¬ mayP a j r) : Calls Try.prog 44 #[.int .i64 a, .int .i64 j, .int .i64 r] w fun e w' => e = .returned (.tuple #[.pointer none, .int .i64 1]) ∧ w' = w := by
  have hP : (a < 1) ∨ (1 ≤ a ∧ 64 < a) ∨ (1 ≤ a ∧ a ≤ 64 ∧ j < 0) ∨ (1 ≤ a ∧ a ≤ 64 ∧ 0 ≤ j ∧ 65536 < j) ∨ (1 ≤ a ∧ a ≤ 64 ∧ 0 ≤ j ∧ j ≤ 65536 ∧ r < 0) ∨ (1 ≤ a ∧ a ≤ 64 ∧ 0 ≤ j ∧ j ≤ 65536 ∧ 0 ≤ r ∧ 65536 < r) := by
    unfold mayP at h
    omega
  clear h
  rcases hP with h | ⟨h1, h2⟩ | ⟨h1, h2, h3⟩ | ⟨h1, h2, h3, h4⟩ | ⟨h1, h2, h3, h4, h5⟩ | ⟨h1, h2, h3, h4, h5, h6⟩
  all_goals
    go_enter Try.func44, Try.ntmps44
    go_wp2
    go_ret2
    exact ⟨rfl, rfl⟩

theorem u_RWorkers : Try.prog.underlying 62 = some (.slice 66) := by kernel_rfl
theorem i_RWorker : (Try.prog.info? 66).map (fun i => (i.zero, i.size, i.bytes)) = some (some (.agg #[.int .i64 0, .bool false]), 2, 16) := by kernel_rfl
theorem app_worker {w : World} {v : Value} {l : List (Int × Bool)} (h : RowIs w 66 2 v l.length (rCells l)) (hl : l.length ≤ 100000) (x : Int × Bool) (g : Nat) (hg : w.heap[g]? = some (.cells #[.int .i64 x.1, .bool x.2] 66 (0, 0))) :
    ∃ v' w', (apX #[62, 62] 62 #[v, .slice (some ⟨g, 0, none⟩) 1 1]).run Try.prog w = .ok v' w' ∧ RowIs w' 66 2 v' (l ++ [x]).length (rCells (l ++ [x])) ∧ Chg v.ownBlock.toList w w' ∧
      (v'.ownBlock = v.ownBlock ∨ v'.ownBlock = some w.heap.size) ∧ (∃ a cap, v' = .slice a (l.length + 1) cap) := by
  obtain ⟨i, hi, hz, hs, hb⟩ := infoOf i_RWorker
  obtain ⟨v', w', q1, q2, q3, q4⟩ := h.app (P := Try.prog) 62 62 i _ 16 u_RWorkers hi hz hs hb rfl (by omega) ⟨g, 0, none⟩ 1 1 [.int .i64 x.1, .bool x.2] rfl
    (by
      intro k u hu
      rw [Addr.add_mid, Nat.zero_add, cell_of_row _ _ _ _ _ _ hg]
      simpa using hu)
    (by intro u hu; simp at hu; rcases hu with rfl | rfl <;> rfl) (by unfold maxLen; omega) (by omega)
  obtain ⟨a, cap, hv, _⟩ := q2.slice
  refine ⟨v', w', q1, ?_, q3, q4, ⟨a, cap, hv⟩⟩
  rw [List.length_append, show rCells (l ++ [x]) = rCells l ++ [.int .i64 x.1, .bool x.2] from by simp [rCells]]
  exact q2
end Go.Proofs.Ytfmdghijbkddpaa

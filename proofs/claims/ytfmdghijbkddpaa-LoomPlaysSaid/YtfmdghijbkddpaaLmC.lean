/- The loom: what is told of it; looked, quit, Cancel, Most. -/
import Derived.Test.YtfmdghijbkddpaaLmB
namespace Go.Proofs.Ytfmdghijbkddpaa
open Go.RowKit
set_option linter.unusedVariables false
set_option linter.unusedSimpArgs false

/-- Of how many workers it is so. -/
def cnt (k : Int) (l : List (Nat × Nat)) : Nat := (l.filter fun x => decide ((x.1 : Int) = k)).length
theorem cnt_take (k : Int) (l : List (Nat × Nat)) (n : Nat) (h : n < l.length) : cnt k (l.take (n + 1)) = cnt k (l.take n) + (if (l[n].1 : Int) = k then 1 else 0) := by
  rw [List.take_succ_eq_append_getElem h]
  unfold cnt
  rw [List.filter_append, List.length_append]
  congr 1
  by_cases e : (l[n].1 : Int) = k <;> simp [e]
theorem cnt_le (k : Int) (l : List (Nat × Nat)) : cnt k l ≤ l.length := List.length_filter_le _ _
theorem cnt_gauge (s : LS) : cnt 1 s.ws = s.gauge := by
  unfold cnt LS.gauge
  have : (fun x : Nat × Nat => decide ((x.1 : Int) = 1)) = isBusy := by
    funext x
    unfold isBusy
    simp
    omega
  rw [this]
theorem cnt_left (s : LS) : cnt 2 s.ws = s.left := by
  unfold cnt LS.left
  have : (fun x : Nat × Nat => decide ((x.1 : Int) = 2)) = (fun x => decide (x.1 = 2)) := by
    funext x
    simp
    omega
  rw [this]

set_option maxRecDepth 100000 in
theorem count_calls (w : World) (b : Nat) (s : LS) (q : LV) (c : Int) (h : LmIs w b s q) : Calls Try.prog 34 #[.pointer (some ⟨b, 0, none⟩), .int .i64 c] w fun e w' => e = .returned (.int .i64 (cnt c s.ws)) ∧ Chg [] w w' := by
  have hb5 := h.cells.2.2.2.2.2.1
  have hwl : s.ws.length ≤ 64 := h.2.2.2.2.2.ws
  obtain ⟨wa, wcap, hwv, _⟩ := h.2.2.1.slice
  have hwk := fun (k : Nat) (hk : k < s.ws.length) => h.worker hk
  rw [hwv] at hb5 hwk
  have HV := Lib.hid hwv
  clear hwv
  go_enter Try.func34, Try.ntmps34
  go_wp2
  go_loopg [5, 13] s.ws.length (fun n m i wr => ∃ k : Nat, k ≤ s.ws.length ∧ n = s.ws.length - k ∧ i = .int .i64 k ∧ m = .int .i64 (cnt c (s.ws.take k)) ∧ Chg [] w wr)
  case atStart => exact ⟨0, Nat.zero_le _, by omega, rfl, rfl, Chg.refl _ _⟩
  case round =>
    obtain ⟨k, hk, hgk, rfl, rfl, hch⟩ := hrel
    by_cases hlt : k < s.ws.length
    · have hlt' : k < s.ws.length := hlt
      obtain ⟨wg, wo, wc, hwe, hw0, hw1⟩ := hwk k hlt'
      simp only [Value.slice.injEq, true_and] at hwe
      obtain ⟨rfl, rfl⟩ := hwe
      have hwgl := World.block_lt_of_cell? _ _ hw0
      have hw0' : wr.cell? ⟨wg, wo + k * 2, none⟩ = some (.int .i64 s.ws[k].1) := by rw [hch.cell (p := ⟨wg, wo + k * 2, none⟩) hwgl (by simp)]; exact hw0
      have hw1' : wr.cell? ⟨wg, wo + k * 2 + 1, none⟩ = some (.int .i64 s.ws[k].2) := by rw [hch.cell (p := ⟨wg, wo + k * 2 + 1, none⟩) hwgl (by simp)]; exact hw1
      have hwgl' : wg < wr.heap.size := by have := hch.size; simp only at hwgl; omega
      have htake := cnt_take c s.ws k hlt'
      have hcl : cnt c (s.ws.take k) ≤ 64 := Nat.le_trans (cnt_le _ _) (by rw [List.length_take]; omega)
      have HT := Lib.hid htake
      clear htake hwk hw0 hw1
      generalize s.ws[k] = x at *
      generalize cnt c (s.ws.take k) = m at *
      by_cases e : (x.1 : Int) = c
      · have E := Lib.hid e
        have d : ((x.1 : Int) == c) = true := by simp [e]
        have d2 : decide ((x.1 : Int) = c) = true := by simp [e]
        clear e
        go_wp2
        go_roundg (s.ws.length - (k + 1))
        case measure => omega
        case rel => exact ⟨k + 1, by omega, rfl, by go_num, by rw [HT.out, if_pos E.out]; go_num, hch.alloc _⟩
      · have d : ((x.1 : Int) == c) = false := by simp [e]
        go_wp2
        go_roundg (s.ws.length - (k + 1))
        case measure => omega
        case rel => exact ⟨k + 1, by omega, rfl, by go_num, by rw [HT.out, if_neg e]; rfl, hch.alloc _⟩
    · obtain rfl : k = s.ws.length := by omega
      go_wp2
      go_ret
      rw [List.take_length]
      exact ⟨rfl, hch⟩

theorem gauge_calls (w : World) (b : Nat) (s : LS) (q : LV) (h : LmIs w b s q) : Calls Try.prog 12 #[.pointer (some ⟨b, 0, none⟩)] w fun e w' => e = .returned (.int .i64 s.gauge) ∧ Chg [] w w' := by
  rw [← cnt_gauge]
  go_enter Try.func12, Try.ntmps12
  go_wp2_with (go_at_call 34; refine (count_calls _ b s q _ h).mono ?_; rintro e w1 ⟨rfl, hc1⟩)
  go_ret
  exact ⟨rfl, hc1⟩
theorem top_calls (w : World) (b : Nat) (s : LS) (q : LV) (h : LmIs w b s q) : Calls Try.prog 15 #[.pointer (some ⟨b, 0, none⟩)] w fun e w' => e = .returned (.int .i64 s.top) ∧ w' = w := by
  obtain ⟨c0, c1, c2, c3, c4, c5, c6, c7, c8, c9, c10⟩ := h.cells
  go_enter Try.func15, Try.ntmps15
  go_wp2
  go_ret
  exact ⟨rfl, rfl⟩
theorem made_calls (w : World) (b : Nat) (s : LS) (q : LV) (h : LmIs w b s q) : Calls Try.prog 27 #[.pointer (some ⟨b, 0, none⟩)] w fun e w' => e = .returned (.int .i64 s.made) ∧ w' = w := by
  obtain ⟨c0, c1, c2, c3, c4, c5, c6, c7, c8, c9, c10⟩ := h.cells
  go_enter Try.func27, Try.ntmps27
  go_wp2
  go_ret
  exact ⟨rfl, rfl⟩
theorem outcome_calls (w : World) (b : Nat) (s : LS) (q : LV) (h : LmIs w b s q) : Calls Try.prog 22 #[.pointer (some ⟨b, 0, none⟩)] w fun e w' => e = .returned (.int .i64 s.out) ∧ w' = w := by
  obtain ⟨c0, c1, c2, c3, c4, c5, c6, c7, c8, c9, c10⟩ := h.cells
  go_enter Try.func22, Try.ntmps22
  go_wp2
  go_ret
  exact ⟨rfl, rfl⟩
theorem gone_calls (w : World) (b : Nat) (s : LS) (q : LV) (h : LmIs w b s q) : Calls Try.prog 23 #[.pointer (some ⟨b, 0, none⟩)] w fun e w' => e = .returned (.int .i64 s.gone) ∧ Chg [] w w' := by
  have hl : s.left ≤ 64 := by rw [← cnt_left]; exact Nat.le_trans (cnt_le _ _) h.2.2.2.2.2.ws
  have hP : (s.shut = false ∧ s.out = 0 ∧ s.gone = s.left) ∨ (s.shut = false ∧ ¬ s.out = 0 ∧ s.gone = s.left + 1) ∨ (s.shut = true ∧ s.out = 0 ∧ s.gone = s.left + 1) ∨ (s.shut = true ∧ ¬ s.out = 0 ∧ s.gone = s.left + 1 + 1) := by
    unfold LS.gone
    cases s.shut <;> by_cases e : s.out = 0 <;> simp [e]
  have HL := Lib.hid (cnt_left s)
  rcases hP with ⟨e1, e2, e3⟩ | ⟨e1, e2, e3⟩ | ⟨e1, e2, e3⟩ | ⟨e1, e2, e3⟩
  all_goals
    have E3 := Lib.hid e3
    clear e3
    go_enter Try.func23, Try.ntmps23
    go_upto_if 9 with (go_at_call 34; refine (count_calls _ b s q _ h).mono ?_; rintro e w1 ⟨rfl, hc1⟩; obtain ⟨c0, c1, c2, c3, c4, c5, c6, c7, c8, c9, c10⟩ := (h.chg0 hc1).cells)
    rw [e1] at c4
    try rw [e2] at c7
    have d : cnt 2 s.ws ≤ 64 := by rw [HL.out]; exact hl
    go_wp2
    go_ret
    refine ⟨?_, hc1⟩
    rw [E3.out, ← HL.out]
    rfl

theorem cancel_no (w : World) (b : Nat) (s : LS) (q : LV) (h : LmIs w b s q) (hc : s.canc = true) : Calls Try.prog 17 #[.pointer (some ⟨b, 0, none⟩)] w fun e w' => e = .returned (.int .i64 130) ∧ w' = w := by
  obtain ⟨c0, c1, c2, c3, c4, c5, c6, c7, c8, c9, c10⟩ := h.cells
  rw [hc] at c8
  go_enter Try.func17, Try.ntmps17
  go_wp2
  go_ret
  exact ⟨rfl, rfl⟩
/-- The loom's one cell set anew. -/
theorem LmIs.set {w : World} {b : Nat} {s s' : LS} {q : LV} (h : LmIs w b s q) (i : Nat) (u : Value) (hi : i < 11) (hne : i ≠ 3 ∧ i ≠ 5 ∧ i ≠ 6)
    (hu : #[.int .i64 s'.jobs, .int .i64 s'.room, .int .i64 s'.next, q.cv, .bool s'.shut, q.wv, q.av, .int .i64 s'.out, .bool s'.canc, .int .i64 s'.top, .int .i64 s'.made] = (#[.int .i64 s.jobs, .int .i64 s.room, .int .i64 s.next, q.cv, .bool s.shut, q.wv, q.av, .int .i64 s.out, .bool s.canc, .int .i64 s.top, .int .i64 s.made] : Array Value).setIfInBounds i u)
    (hch : s'.ch = s.ch) (hws : s'.ws = s.ws) (hans : s'.ans = s.ans) (hok : s'.ok) : LmIs (w.setCell ⟨b, i, none⟩ u) b s' q := by
  have hC : Chg [b] w (w.setCell ⟨b, i, none⟩ u) := (Chg.refl [b] w).setCell (p := ⟨b, i, none⟩) (by simp) u
  have hn := h.2.2.2.2.1
  have hnb : ∀ k ∈ q.cv.ownBlock.toList ++ q.wv.ownBlock.toList ++ q.av.ownBlock.toList, k ≠ b := by
    intro k hk e
    subst e
    simp only [LV.foot, List.cons_append, List.nodup_cons] at hn
    exact hn.1 hk
  refine ⟨?_, ?_, ?_, ?_, hn, hok⟩
  · have := blk_set h.1 i u
    rw [hu]
    exact this
  · rw [hch]
    exact h.2.1.chg hC (fun g hg => by have := hnb g (by simp [hg]); simpa using this)
  · rw [hws]
    exact h.2.2.1.chg hC (fun g hg => by have := hnb g (by simp [hg]); simpa using this)
  · rw [hans]
    exact h.2.2.2.1.chg hC (fun g hg => by have := hnb g (by simp [hg]); simpa using this)
theorem cancel_yes (w : World) (b : Nat) (s : LS) (q : LV) (h : LmIs w b s q) (hc : s.canc = false) : Calls Try.prog 17 #[.pointer (some ⟨b, 0, none⟩)] w fun e w' => e = .returned (.int .i64 0) ∧ LmIs w' b { s with canc := true } q ∧ Chg [b] w w' := by
  obtain ⟨c0, c1, c2, c3, c4, c5, c6, c7, c8, c9, c10⟩ := h.cells
  rw [hc] at c8
  have hb := World.block_lt_of_cell? _ _ c0
  have hf := blk_frozen h.1 8
  go_enter Try.func17, Try.ntmps17
  go_wp2
  go_ret
  exact ⟨rfl, h.set 8 _ (by omega) (by omega) rfl rfl rfl rfl ⟨h.2.2.2.2.2.jobs, h.2.2.2.2.2.room, h.2.2.2.2.2.next, h.2.2.2.2.2.ws, h.2.2.2.2.2.st, h.2.2.2.2.2.ch, h.2.2.2.2.2.ans, h.2.2.2.2.2.out, h.2.2.2.2.2.top, h.2.2.2.2.2.made⟩, (Chg.refl [b] w).setCell (by simp) _⟩
end Go.Proofs.Ytfmdghijbkddpaa

/- The loom: make as a whole, Move, may, New, Most. -/
import Derived.Test.YtfmdghijbkddpaaLmF
import Derived.Laws.MakeOwn
namespace Go.Proofs.Ytfmdghijbkddpaa
open Go.RowKit
set_option linter.unusedVariables false
set_option linter.unusedSimpArgs false

theorem make_calls (w : World) (b : Nat) (s : LS) (q : LV) (m : Mv) (h : LmIs w b s q) (hg : s.good) (hc : s.Can m) :
    Calls Try.prog 43 #[.pointer (some ⟨b, 0, none⟩), .agg #[.int .i64 m.kind, .int .i64 m.who, .int .i64 m.job]] w fun e w' => e = .returned (.tuple #[]) ∧ MakeP w b q (s.make m) w' := by
  have hk := hg.ok
  have hi := hg.1
  have hm : s.made + 1 ≤ 1000000 := by have := hg.2; omega
  cases hc with
  | put h1 h2 h3 => exact make_put w b s q h hk hm h1 h2 h3
  | give i hi' h1 h2 =>
    rcases given_can s hi h1 with ⟨g1, g2, g3, g4⟩ | ⟨g1, j, l, g2, g3⟩
    · have e : s.make ⟨2, i, s.given⟩ = { (({ s with made := s.made + 1, next := s.next + 1 } : LS).setW i (1, s.next)) with top := max s.top (({ s with made := s.made + 1, next := s.next + 1 } : LS).setW i (1, s.next)).gauge } := by
        unfold LS.make
        simp only [g1, g4]
        rfl
      rw [e, g4]
      exact make_give0 w b s q h hk hm i hi' g1 g3 s.next (by have := hk.jobs; omega)
    · have e : s.make ⟨2, i, s.given⟩ = { (({ s with made := s.made + 1, ch := l } : LS).setW i (1, j)) with top := max s.top (({ s with made := s.made + 1, ch := l } : LS).setW i (1, j)).gauge } := by
        unfold LS.make
        have : ¬ s.room = 0 := by omega
        simp only [this, g3, g2]
        rfl
      rw [e, g3]
      exact make_giveq w b s q h hk hm i hi' g1 j l g2 (by have := hi.chj j (by rw [g2]; simp); have := hk.jobs; omega)
  | shut h1 h2 => exact make_shut w b s q h hk hm
  | leave i hi' h1 h2 h3 => exact make_leave w b s q h hk hm i hi'
  | ans i hi' h1 h2 =>
    have e : s.make ⟨5, i, s.ws[i].2⟩ = ({ ({ s with made := s.made + 1 } : LS).setW i (0, 0) with ans := s.ans ++ [s.ws[i].2] } : LS).looked := by
      unfold LS.make
      simp
    rw [e]
    have := hi.st s.ws[i] (List.getElem_mem hi')
    have hj := hi.jobs
    exact make_ans w b s q h hk hm i hi' (by have := hi.late h1; omega) s.ws[i].2 (by omega)
  | feeder h1 h2 => exact make_quit w b s q h hk hm (-2) (.inl rfl)
  | coll h1 h2 => exact make_quit w b s q h hk hm (-1) (.inr (.inl rfl))
  | quit i hi' h1 h2 => exact make_quit w b s q h hk hm i (.inr (.inr ⟨by omega, by omega⟩))

theorem move_bad (w : World) (b : Nat) (s : LS) (q : LV) (k : Int) (h : LmIs w b s q) (hk : k < 0 ∨ (s.moves.length : Int) ≤ k) :
    Calls Try.prog 14 #[.pointer (some ⟨b, 0, none⟩), .int .i64 k] w fun e w' => e = .returned (.int .i64 130) ∧ Chg [] w w' := by
  have HK := Lib.hid hk
  have hl : s.moves.length ≤ 260 := by have := moves_length s; have := h.2.2.2.2.2.ws; omega
  clear hk
  by_cases h1 : k < 0
  · go_enter Try.func14, Try.ntmps14
    go_wp2_with (go_at_call 13; refine (moves_calls w b s q h).mono ?_; rintro e w1 ⟨v, rfl, hr, hc, _⟩)
    go_ret
    exact ⟨rfl, hc⟩
  · have h2 : (s.moves.length : Int) ≤ k := HK.out.resolve_left h1
    go_enter Try.func14, Try.ntmps14
    go_wp2_with (go_at_call 13; refine (moves_calls w b s q h).mono ?_; rintro e w1 ⟨v, rfl, hr, hc, _⟩; obtain ⟨a, cap, rfl, _⟩ := hr.slice)
    go_ret
    exact ⟨rfl, hc⟩
theorem move_ok (w : World) (b : Nat) (s : LS) (q : LV) (k : Nat) (h : LmIs w b s q) (hg : s.good) (hk : k < s.moves.length) :
    Calls Try.prog 14 #[.pointer (some ⟨b, 0, none⟩), .int .i64 k] w fun e w' => e = .returned (.int .i64 0) ∧ MakeP w b q (s.make s.moves[k]) w' := by
  have hl : s.moves.length ≤ 260 := by have := moves_length s; have := h.2.2.2.2.2.ws; omega
  have hC := can_of_mem s _ (List.getElem_mem hk)
  have HC := Lib.hid hC
  clear hC
  obtain ⟨x1, x2, x3⟩ := mCells_at s.moves k hk
  generalize hm : s.moves[k] = m at *
  have HM := Lib.hid hm
  clear hm
  go_enter Try.func14, Try.ntmps14
  go_upto_region 4 with (go_at_call 13; refine (moves_calls w b s q h).mono ?_; rintro e w1 ⟨v, rfl, hr, hc, _⟩; obtain ⟨g, o, cap, rfl, hcap, _⟩ := hr.ptr (by omega))
  have y1 := hr.cell x1
  have y2 := hr.cell x2
  have y3 := hr.cell x3
  rw [← Nat.add_assoc] at y2 y3
  have hgl := World.block_lt_of_cell? _ _ y1
  have hA := h.chg0 hc
  go_wp2_with (go_at_call 43; refine (make_calls w1 b s q m hA hg HC.out).mono ?_; rintro e w2 ⟨rfl, hM⟩)
  go_ret
  refine ⟨rfl, ?_⟩
  exact MakeP.next (hc.of_nil) (fun k hk => .inl hk) hM

def mayB (a j r : Int) : Bool := decide (1 ≤ a) && decide (a ≤ 64) && decide (0 ≤ j) && decide (j ≤ 65536) && decide (0 ≤ r) && decide (r ≤ 65536)
theorem may_yes (a j r : Int) (w : World) (h : 1 ≤ a ∧ a ≤ 64 ∧ 0 ≤ j ∧ j ≤ 65536 ∧ 0 ≤ r ∧ r ≤ 65536) : Calls Try.prog 32 #[.int .i64 a, .int .i64 j, .int .i64 r] w fun e w' => e = .returned (.bool true) ∧ w' = w := by
  obtain ⟨h1, h2, h3, h4, h5, h6⟩ := h
  have d1 : decide (1 ≤ a) = true := by simp [h1]
  have d2 : decide (a ≤ 64) = true := by simp [h2]
  have d3 : decide (0 ≤ j) = true := by simp [h3]
  have d4 : decide (j ≤ 65536) = true := by simp [h4]
  have d5 : decide (0 ≤ r) = true := by simp [h5]
  have d6 : decide (r ≤ 65536) = true := by simp [h6]
  go_enter Try.func32, Try.ntmps32
  go_wp2
  go_ret
  exact ⟨rfl, rfl⟩


def LS.init (a j r : Nat) : LS := ({ jobs := j, room := r, next := 0, ch := [], shut := false, ws := List.replicate a (0, 0), ans := [], out := 0, canc := false, top := 0, made := 0 } : LS).looked


theorem u_workers : Try.prog.underlying 49 = some (.slice 56) := by kernel_rfl
theorem i_worker : (Try.prog.info? 56).map (fun i => (i.zero, i.size, i.bytes)) = some (some (.agg #[.int .i64 0, .int .i64 0]), 2, 16) := by kernel_rfl
theorem made_zero (a : Nat) : (madeCells #[.int .i64 0, .int .i64 0] (a * 2)).toList = wCells (List.replicate a (0, 0)) := by
  have h1 : (madeCells #[.int .i64 0, .int .i64 0] (a * 2)).toList = List.replicate (a * 2) (.int .i64 0) := by
    rw [List.eq_replicate_iff]
    refine ⟨by simp [size_madeCells], ?_⟩
    intro v hv
    simp only [madeCells, Array.toList_map, Array.toList_range, List.mem_map, List.mem_range] at hv
    obtain ⟨k, _, rfl⟩ := hv
    have h2 : k % 2 = 0 ∨ k % 2 = 1 := by omega
    rcases h2 with e | e <;> simp [e]
  rw [h1]
  clear h1
  induction a with
  | zero => rfl
  | succ a ih =>
    rw [show (a + 1) * 2 = a * 2 + 1 + 1 from by omega, List.replicate_succ, List.replicate_succ, ih, List.replicate_succ]
    rfl
theorem make_run (a : Nat) (ha : a ≤ 64) (w : World) : (Instr.makeSlice 49 (.int .i64 a) (.int .i64 a)).run Try.prog w = .ok (.slice (some ⟨w.heap.size, 0, none⟩) a a) (w.alloc (.cells (madeCells #[.int .i64 0, .int .i64 0] (a * 2)) 56)) := by
  obtain ⟨i, hi, hz, hs, hb⟩ := infoOf i_worker
  have := run_make (P := Try.prog) w 49 56 i _ u_workers hi hz .i64 .i64 a a (by omega) (by omega) (by rw [hb]; omega) (by omega)
  rw [hs] at this
  exact this

set_option maxRecDepth 100000 in
theorem new_yes (a j r : Nat) (w : World) (h1 : 1 ≤ a) (h2 : a ≤ 64) (h3 : j ≤ 65536) (h4 : r ≤ 65536) : Calls Try.prog 11 #[.int .i64 a, .int .i64 j, .int .i64 r] w fun e w' => ∃ b q, e = .returned (.tuple #[.pointer (some ⟨b, 0, none⟩), .int .i64 0]) ∧ LmIs w' b (LS.init a j r) q ∧ Chg [] w w' ∧ ∀ k ∈ q.foot b, w.heap.size ≤ k := by
  have hmk := make_run a h2
  have hml := made_zero a
  have HML := Lib.hid hml
  have hsz := size_madeCells #[.int .i64 0, .int .i64 0] (a * 2)
  have HSZ := Lib.hid hsz
  clear hml hsz
  generalize madeCells #[.int .i64 0, .int .i64 0] (a * 2) = cs at *
  go_enter Try.func11, Try.ntmps11
  go_upto_region 4 with (go_at_call 32; refine (may_yes _ _ _ _ ⟨by omega, by omega, by omega, by omega, by omega, by omega⟩).mono ?_; rintro e w1 ⟨rfl, rfl⟩)
  have hin : LmIs ((w1.alloc (.cells cs 56)).alloc (.cells #[.int .i64 j, .int .i64 r, .int .i64 0, .slice none 0 0, .bool false, .slice (some ⟨w1.heap.size, 0, none⟩) a a, .slice none 0 0, .int .i64 0, .bool false, .int .i64 0, .int .i64 0] 51)) (w1.heap.size + 1)
      { jobs := j, room := r, next := 0, ch := [], shut := false, ws := List.replicate a (0, 0), ans := [], out := 0, canc := false, top := 0, made := 0 } ⟨.slice none 0 0, .slice (some ⟨w1.heap.size, 0, none⟩) a a, .slice none 0 0⟩ := by
    refine ⟨?_, RowIs.nil _ _ _, ?_, RowIs.nil _ _ _, ?_, ?_⟩
    · have := blk_new (w1.alloc (.cells cs 56)) (.cells #[.int .i64 j, .int .i64 r, .int .i64 0, .slice none 0 0, .bool false, .slice (some ⟨w1.heap.size, 0, none⟩) a a, .slice none 0 0, .int .i64 0, .bool false, .int .i64 0, .int .i64 0] 51)
      rw [World.size_alloc] at this
      exact this
    · have hr : RowIs (w1.alloc (.cells cs 56)) 56 2 (.slice (some ⟨w1.heap.size, 0, none⟩) a a) a (wCells (List.replicate a (0, 0))) := by
        refine ⟨by rw [wCells_length, List.length_replicate], .inr ⟨w1.heap.size, 0, a, cs, rfl, blk_new w1 _, by omega, by unfold maxLen; omega, by rw [HSZ.out]; omega, ?_⟩⟩
        rw [HML.out, List.drop_zero]
        exact List.take_of_length_le (by rw [wCells_length, List.length_replicate]; omega)
      have := hr.chg0 ((Chg.refl _ _).alloc (.cells #[.int .i64 j, .int .i64 r, .int .i64 0, .slice none 0 0, .bool false, .slice (some ⟨w1.heap.size, 0, none⟩) a a, .slice none 0 0, .int .i64 0, .bool false, .int .i64 0, .int .i64 0] 51))
      show RowIs _ _ _ _ (List.replicate a (0, 0)).length _
      rw [List.length_replicate]
      exact this
    · simp [LV.foot, Value.ownBlock]
    · exact ⟨h3, h4, by simp, by simp only [List.length_replicate]; exact h2, by intro x hx; simp at hx; simp [hx.2], by simp, by simp, by simp, by simp, by simp⟩
  have hc0 : Chg [] w1 ((w1.alloc (.cells cs 56)).alloc (.cells #[.int .i64 j, .int .i64 r, .int .i64 0, .slice none 0 0, .bool false, .slice (some ⟨w1.heap.size, 0, none⟩) a a, .slice none 0 0, .int .i64 0, .bool false, .int .i64 0, .int .i64 0] 51)) := ((Chg.refl _ _).alloc _).alloc _
  generalize World.alloc (World.alloc w1 _) _ = w2 at *
  go_wp2_with (go_at_call 33; refine (looked_calls w2 _ _ _ hin).mono ?_; rintro e w3 ⟨rfl, h3, hc3⟩)
  go_ret2
  refine ⟨_, _, rfl, h3, hc0.trans hc3 (by intro x hx; simp at hx; right; omega), ?_⟩
  intro k hk
  simp [LV.foot, Value.ownBlock] at hk
  omega

theorem most_yes (a j r : Nat) (w : World) (h1 : 1 ≤ a) (h2 : a ≤ 64) (h3 : j ≤ 65536) (h4 : r ≤ 65536) : Calls Try.prog 21 #[.int .i64 a, .int .i64 j, .int .i64 r] w fun e w' => e = .returned (.int .i64 (a + 1 + (if r = 0 then 2 else 3) * j : Nat)) ∧ w' = w := by
  by_cases h0 : r = 0
  · subst h0
    go_enter Try.func21, Try.ntmps21
    go_wp2_with (go_at_call 32; refine (may_yes _ _ _ _ ⟨by omega, by omega, by omega, by omega, by omega, by omega⟩).mono ?_; rintro e w1 ⟨rfl, rfl⟩)
    go_ret
    exact ⟨rfl, rfl⟩
  · have d : ((r : Int) == 0) = false := by simp; omega
    have e1 : (if r = 0 then 2 else 3) = 3 := by rw [if_neg h0]
    have E1 := Lib.hid e1
    clear e1
    go_enter Try.func21, Try.ntmps21
    go_wp2_with (go_at_call 32; refine (may_yes _ _ _ _ ⟨by omega, by omega, by omega, by omega, by omega, by omega⟩).mono ?_; rintro e w1 ⟨rfl, rfl⟩)
    go_ret
    exact ⟨rfl, rfl⟩
end Go.Proofs.Ytfmdghijbkddpaa

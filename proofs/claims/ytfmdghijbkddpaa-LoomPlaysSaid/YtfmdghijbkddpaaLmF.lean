/- The loom: a move made: the walk. -/
import Derived.Test.YtfmdghijbkddpaaLmE
namespace Go.Proofs.Ytfmdghijbkddpaa
open Go.RowKit
set_option linter.unusedVariables false
set_option linter.unusedSimpArgs false

def LS.good (s : LS) : Prop := s.inv ∧ s.made + s.phi ≤ 300000
theorem LS.good.make {s : LS} {m : Mv} (h : s.good) (hc : s.Can m) : (s.make m).good := by
  obtain ⟨h1, h2, h3, _⟩ := inv_make s m h.1 hc
  have := h.2
  exact ⟨h1, by omega⟩
theorem LS.good.ok {s : LS} (h : s.good) : s.ok := by
  obtain ⟨⟨j1, j2, j3, j4, j5, j6, j7, j8, j9, j10, j11, j12, j13, j14⟩, h2⟩ := h
  exact ⟨j1, j2, j3, j4, fun x hx => by have := j5 x hx; omega, ⟨by omega, fun j hj => by have := j7 j hj; omega⟩, ⟨by omega, fun j hj => by have := j9 j hj; omega⟩, j10, by omega, by omega⟩

def MakeP (w : World) (b : Nat) (q : LV) (s' : LS) (w' : World) : Prop := ∃ q', LmIs w' b s' q' ∧ Chg (q.foot b) w w' ∧ ∀ k ∈ q'.foot b, k ∈ q.foot b ∨ w.heap.size ≤ k
theorem MakeP.next {w w1 w2 : World} {b : Nat} {q q1 : LV} {s2 : LS} (h1 : Chg (q.foot b) w w1) (hf : ∀ k ∈ q1.foot b, k ∈ q.foot b ∨ w.heap.size ≤ k) (h : MakeP w1 b q1 s2 w2) : MakeP w b q s2 w2 := by
  obtain ⟨q', k1, k2, k3⟩ := h
  refine ⟨q', k1, h1.trans k2 hf, fun k hk => ?_⟩
  rcases k3 k hk with e | e
  · exact hf k e
  · have := h1.size
    right; omega


set_option maxRecDepth 100000 in
set_option maxHeartbeats 4000000 in
theorem make_put (w : World) (b : Nat) (s : LS) (q : LV) (h : LmIs w b s q) (hk : s.ok) (hmade : s.made + 1 ≤ 1000000) (h1 : s.shut = false) (h2 : s.next < s.jobs) (h3 : s.ch.length < s.room) :
    Calls Try.prog 43 #[.pointer (some ⟨b, 0, none⟩), .agg #[.int .i64 1, .int .i64 0, .int .i64 s.next]] w fun e w' => e = .returned (.tuple #[]) ∧ MakeP w b q { s with made := s.made + 1, ch := s.ch ++ [s.next], next := s.next + 1 } w' := by
  obtain ⟨c0, c1, c2, c3, c4, c5, c6, c7, c8, c9, c10⟩ := h.cells
  have hb : b < w.heap.size := World.block_lt_of_cell? _ _ c0
  have hf := blk_frozen h.1 10
  have hj := hk.jobs
  have hr := hk.room
  go_enter Try.func43, Try.ntmps43
  go_upto_region 2 with (fail)
  have hA : LmIs ((w.setCell ⟨b, 10, none⟩ (.int .i64 (s.made + 1 : Nat))).alloc (.cells #[.int .i64 1, .int .i64 0, .int .i64 s.next] 31)) b { s with made := s.made + 1 } q :=
    (h.set (s' := { s with made := s.made + 1 }) 10 _ (by omega) (by omega) rfl rfl rfl rfl ⟨hk.jobs, hk.room, hk.next, hk.ws, hk.st, hk.ch, hk.ans, hk.out, hk.top, hmade⟩).chg0 ((Chg.refl _ _).alloc _)
  have hcw : Chg (q.foot b) w ((w.setCell ⟨b, 10, none⟩ (.int .i64 (s.made + 1 : Nat))).alloc (.cells #[.int .i64 1, .int .i64 0, .int .i64 s.next] 31)) := ((Chg.refl _ _).setCell (by simp [LV.foot]) _).alloc _
  have hmb : ((w.setCell ⟨b, 10, none⟩ (.int .i64 (s.made + 1 : Nat))).alloc (.cells #[.int .i64 1, .int .i64 0, .int .i64 s.next] 31)).heap[w.heap.size]? = some (.cells #[.int .i64 1, .int .i64 0, .int .i64 s.next] 31 (0, 0)) := by
    have := blk_new (w.setCell ⟨b, 10, none⟩ (.int .i64 (s.made + 1 : Nat))) (.cells #[.int .i64 1, .int .i64 0, .int .i64 s.next] 31)
    simpa using this
  have hcast : (s.made : Int) + 1 = (s.made + 1 : Nat) := by omega
  rw [hcast]
  generalize World.alloc _ _ = w2 at *
  have hbm : w.heap.size ≠ b := by omega
  have hbf : ∀ k ∈ q.foot b, k < w.heap.size := h.lt
  have hmw : w.heap.size ≤ w2.heap.size := hcw.size
  have HW := Lib.hid (rfl : w.heap.size = w.heap.size)
  obtain ⟨mb, hmbe⟩ : ∃ mb, mb = w.heap.size := ⟨_, rfl⟩
  rw [← hmbe] at hmb hbm hbf hmw
  clear HW
  have HMB := Lib.hid hmbe
  rw [← hmbe]
  clear hcast hmbe
  obtain ⟨c0, c1, c2, c3, c4, c5, c6, c7, c8, c9, c10⟩ := hA.cells
  dsimp only at c0 c1 c2 c3 c4 c5 c6 c7 c8 c9 c10
  have m0 := blk_cell hmb 0 (v := .int .i64 1) rfl
  have m1 := blk_cell hmb 1 (v := .int .i64 0) rfl
  have m2 := blk_cell hmb 2 (v := .int .i64 s.next) rfl
  have hb2 := blk_lt hA.1
  have hmb2 := blk_lt hmb
  have hA2 := Lib.hid hA
  clear hA
  clear hmb
  have hA := hA2.out
  have hW0 : Chg [] w2 (w2.alloc (.cells #[.int .i64 s.next] 3)).drew := ((Chg.refl _ _).alloc _).drew
  obtain ⟨v2, w6, hap, hrow2, hch2, hat2, a2, cap2, hv2⟩ := app_int (w := (w2.alloc (.cells #[.int .i64 s.next] 3)).drew) (hA.2.1.chg0 hW0) (by show s.ch.length ≤ 100000; omega) s.next w2.heap.size (blk_drew (blk_new w2 _))
  have hN := hA.newCh hW0 hch2 v2 (s.ch ++ [s.next]) hrow2 hat2 ⟨hk.jobs, hk.room, hk.next, hk.ws, hk.st, ⟨by simp; omega, by
    intro j hj
    simp at hj
    rcases hj with hj | rfl
    · exact hk.ch.2 j hj
    · omega⟩, hk.ans, hk.out, hk.top, hmade⟩
  obtain ⟨n1, n2, n3, n4, n5⟩ := foot_ne h.2.2.2.2.1
  have hb6 := hch2.at (hW0.at hA.1 (by simp)) n1
  have x2 := blk_cell hb6 2 rfl
  have x3 := blk_cell hb6 3 (v := q.cv) rfl
  have f2 := blk_frozen hb6 2
  have f3 := blk_frozen hb6 3
  have hl6 := blk_lt hb6
  dsimp only at x2
  obtain ⟨hN1, hN2, hN3⟩ := hN
  have hS := hN1.set (s' := { s with made := s.made + 1, ch := s.ch ++ [s.next], next := s.next + 1 }) 2 (.int .i64 (s.next + 1 : Nat)) (by omega) (by omega) rfl rfl rfl rfl ⟨hk.jobs, hk.room, h2, hk.ws, hk.st, ⟨by simp; omega, by
    intro j hj
    simp at hj
    rcases hj with hj | rfl
    · exact hk.ch.2 j hj
    · omega⟩, hk.ans, hk.out, hk.top, hmade⟩
  have hcs := hN2.setCell (p := ⟨b, 2, none⟩) (.inl (by simp [LV.foot])) (.int .i64 (s.next + 1 : Nat))
  have HS := Lib.hid hS
  have HN3 : ∀ k ∈ ({ q with cv := v2 } : LV).foot b, k ∈ q.foot b ∨ w.heap.size ≤ k := fun k hk => (hN3 k hk).imp id (fun e => by rw [HMB.out] at hmw; omega)
  clear hN1 hS hA hN2 hN3
  generalize hnn : List.length (_ : List Nat) + 1 = n2 at hv2
  rw [hv2] at HS hcs
  have HV := Lib.hid hv2
  simp only [hv2] at hap
  clear hv2 hb6 hch2 hW0 hrow2 hat2
  go_wp2
  go_region
  all_goals
    go_wp2
    go_end0
    refine ⟨rfl, _, HS.out, hcw.trans hcs (fun x hx => .inl hx), ?_⟩
    rw [← HV.out]
    exact HN3


theorem make_shut (w : World) (b : Nat) (s : LS) (q : LV) (h : LmIs w b s q) (hk : s.ok) (hmade : s.made + 1 ≤ 1000000) :
    Calls Try.prog 43 #[.pointer (some ⟨b, 0, none⟩), .agg #[.int .i64 3, .int .i64 0, .int .i64 0]] w fun e w' => e = .returned (.tuple #[]) ∧ MakeP w b q { s with made := s.made + 1, shut := true } w' := by
  obtain ⟨c0, c1, c2, c3, c4, c5, c6, c7, c8, c9, c10⟩ := h.cells
  have hb : b < w.heap.size := World.block_lt_of_cell? _ _ c0
  have hf := blk_frozen h.1 10
  go_enter Try.func43, Try.ntmps43
  go_upto_region 2 with (fail)
  have hA : LmIs ((w.setCell ⟨b, 10, none⟩ (.int .i64 (s.made + 1 : Nat))).alloc (.cells #[.int .i64 3, .int .i64 0, .int .i64 0] 31)) b { s with made := s.made + 1 } q :=
    (h.set (s' := { s with made := s.made + 1 }) 10 _ (by omega) (by omega) rfl rfl rfl rfl ⟨hk.jobs, hk.room, hk.next, hk.ws, hk.st, hk.ch, hk.ans, hk.out, hk.top, hmade⟩).chg0 ((Chg.refl _ _).alloc _)
  have hcw : Chg (q.foot b) w ((w.setCell ⟨b, 10, none⟩ (.int .i64 (s.made + 1 : Nat))).alloc (.cells #[.int .i64 3, .int .i64 0, .int .i64 0] 31)) := ((Chg.refl _ _).setCell (by simp [LV.foot]) _).alloc _
  have hmb : ((w.setCell ⟨b, 10, none⟩ (.int .i64 (s.made + 1 : Nat))).alloc (.cells #[.int .i64 3, .int .i64 0, .int .i64 0] 31)).heap[w.heap.size]? = some (.cells #[.int .i64 3, .int .i64 0, .int .i64 0] 31 (0, 0)) := by
    have := blk_new (w.setCell ⟨b, 10, none⟩ (.int .i64 (s.made + 1 : Nat))) (.cells #[.int .i64 3, .int .i64 0, .int .i64 0] 31)
    simpa using this
  have hcast : (s.made : Int) + 1 = (s.made + 1 : Nat) := by omega
  rw [hcast]
  generalize World.alloc _ _ = w2 at *
  have hbm : w.heap.size ≠ b := by omega
  have hbf : ∀ k ∈ q.foot b, k < w.heap.size := h.lt
  have hmw : w.heap.size ≤ w2.heap.size := hcw.size
  have HW := Lib.hid (rfl : w.heap.size = w.heap.size)
  obtain ⟨mb, hmbe⟩ : ∃ mb, mb = w.heap.size := ⟨_, rfl⟩
  rw [← hmbe] at hmb hbm hbf hmw
  clear HW
  have HMB := Lib.hid hmbe
  rw [← hmbe]
  clear hcast hmbe
  obtain ⟨c0, c1, c2, c3, c4, c5, c6, c7, c8, c9, c10⟩ := hA.cells
  dsimp only at c0 c1 c2 c3 c4 c5 c6 c7 c8 c9 c10
  have m0 := blk_cell hmb 0 (v := .int .i64 3) rfl
  have m1 := blk_cell hmb 1 (v := .int .i64 0) rfl
  have m2 := blk_cell hmb 2 (v := .int .i64 0) rfl
  have hb2 := blk_lt hA.1
  have hmb2 := blk_lt hmb
  have hA2 := Lib.hid hA
  clear hA
  clear hmb
  have hA := hA2.out
  have f4 := blk_frozen hA.1 4
  go_wp2
  go_end0
  exact ⟨rfl, q, hA.set 4 _ (by omega) (by omega) rfl rfl rfl rfl ⟨hk.jobs, hk.room, hk.next, hk.ws, hk.st, hk.ch, hk.ans, hk.out, hk.top, hmade⟩, hcw.setCell (by simp [LV.foot]) _, fun k hk => .inl hk⟩

theorem make_quit (w : World) (b : Nat) (s : LS) (q : LV) (h : LmIs w b s q) (hk : s.ok) (hmade : s.made + 1 ≤ 1000000) (k : Int) (hw : s.whoOk k) :
    Calls Try.prog 43 #[.pointer (some ⟨b, 0, none⟩), .agg #[.int .i64 6, .int .i64 k, .int .i64 0]] w fun e w' => e = .returned (.tuple #[]) ∧ MakeP w b q (({ s with made := s.made + 1 } : LS).quit k) w' := by
  obtain ⟨c0, c1, c2, c3, c4, c5, c6, c7, c8, c9, c10⟩ := h.cells
  have hb : b < w.heap.size := World.block_lt_of_cell? _ _ c0
  have hf := blk_frozen h.1 10
  have HQ := Lib.hid hw
  clear hw
  go_enter Try.func43, Try.ntmps43
  go_upto_region 2 with (fail)
  have hA : LmIs ((w.setCell ⟨b, 10, none⟩ (.int .i64 (s.made + 1 : Nat))).alloc (.cells #[.int .i64 6, .int .i64 k, .int .i64 0] 31)) b { s with made := s.made + 1 } q :=
    (h.set (s' := { s with made := s.made + 1 }) 10 _ (by omega) (by omega) rfl rfl rfl rfl ⟨hk.jobs, hk.room, hk.next, hk.ws, hk.st, hk.ch, hk.ans, hk.out, hk.top, hmade⟩).chg0 ((Chg.refl _ _).alloc _)
  have hcw : Chg (q.foot b) w ((w.setCell ⟨b, 10, none⟩ (.int .i64 (s.made + 1 : Nat))).alloc (.cells #[.int .i64 6, .int .i64 k, .int .i64 0] 31)) := ((Chg.refl _ _).setCell (by simp [LV.foot]) _).alloc _
  have hmb : ((w.setCell ⟨b, 10, none⟩ (.int .i64 (s.made + 1 : Nat))).alloc (.cells #[.int .i64 6, .int .i64 k, .int .i64 0] 31)).heap[w.heap.size]? = some (.cells #[.int .i64 6, .int .i64 k, .int .i64 0] 31 (0, 0)) := by
    have := blk_new (w.setCell ⟨b, 10, none⟩ (.int .i64 (s.made + 1 : Nat))) (.cells #[.int .i64 6, .int .i64 k, .int .i64 0] 31)
    simpa using this
  have hcast : (s.made : Int) + 1 = (s.made + 1 : Nat) := by omega
  rw [hcast]
  generalize World.alloc _ _ = w2 at *
  have hbm : w.heap.size ≠ b := by omega
  have hbf : ∀ k ∈ q.foot b, k < w.heap.size := h.lt
  have hmw : w.heap.size ≤ w2.heap.size := hcw.size
  have HW := Lib.hid (rfl : w.heap.size = w.heap.size)
  obtain ⟨mb, hmbe⟩ : ∃ mb, mb = w.heap.size := ⟨_, rfl⟩
  rw [← hmbe] at hmb hbm hbf hmw
  clear HW
  have HMB := Lib.hid hmbe
  rw [← hmbe]
  clear hcast hmbe
  obtain ⟨c0, c1, c2, c3, c4, c5, c6, c7, c8, c9, c10⟩ := hA.cells
  dsimp only at c0 c1 c2 c3 c4 c5 c6 c7 c8 c9 c10
  have m0 := blk_cell hmb 0 (v := .int .i64 6) rfl
  have m1 := blk_cell hmb 1 (v := .int .i64 k) rfl
  have m2 := blk_cell hmb 2 (v := .int .i64 0) rfl
  have hb2 := blk_lt hA.1
  have hmb2 := blk_lt hmb
  have hA2 := Lib.hid hA
  clear hA
  clear hmb
  have hA := hA2.out
  go_wp2_with (go_at_call 50; refine (quit_calls w2 b { s with made := s.made + 1 } q k hA HQ.out).mono ?_; rintro e w3 ⟨rfl, h3, h4⟩)
  go_end0
  exact ⟨rfl, q, h3, hcw.trans h4 (fun x hx => .inl hx), fun k hk => .inl hk⟩

set_option maxRecDepth 100000 in
set_option maxHeartbeats 4000000 in
theorem make_leave (w : World) (b : Nat) (s : LS) (q : LV) (h : LmIs w b s q) (hk : s.ok) (hmade : s.made + 1 ≤ 1000000) (i : Nat) (hi : i < s.ws.length) :
    Calls Try.prog 43 #[.pointer (some ⟨b, 0, none⟩), .agg #[.int .i64 4, .int .i64 i, .int .i64 0]] w fun e w' => e = .returned (.tuple #[]) ∧ MakeP w b q (({ s with made := s.made + 1 } : LS).setW i (2, 0)) w' := by
  obtain ⟨c0, c1, c2, c3, c4, c5, c6, c7, c8, c9, c10⟩ := h.cells
  have hb : b < w.heap.size := World.block_lt_of_cell? _ _ c0
  have hf := blk_frozen h.1 10
  have hwl := hk.ws
  go_enter Try.func43, Try.ntmps43
  go_upto_region 2 with (fail)
  have hA : LmIs ((w.setCell ⟨b, 10, none⟩ (.int .i64 (s.made + 1 : Nat))).alloc (.cells #[.int .i64 4, .int .i64 i, .int .i64 0] 31)) b { s with made := s.made + 1 } q :=
    (h.set (s' := { s with made := s.made + 1 }) 10 _ (by omega) (by omega) rfl rfl rfl rfl ⟨hk.jobs, hk.room, hk.next, hk.ws, hk.st, hk.ch, hk.ans, hk.out, hk.top, hmade⟩).chg0 ((Chg.refl _ _).alloc _)
  have hcw : Chg (q.foot b) w ((w.setCell ⟨b, 10, none⟩ (.int .i64 (s.made + 1 : Nat))).alloc (.cells #[.int .i64 4, .int .i64 i, .int .i64 0] 31)) := ((Chg.refl _ _).setCell (by simp [LV.foot]) _).alloc _
  have hmb : ((w.setCell ⟨b, 10, none⟩ (.int .i64 (s.made + 1 : Nat))).alloc (.cells #[.int .i64 4, .int .i64 i, .int .i64 0] 31)).heap[w.heap.size]? = some (.cells #[.int .i64 4, .int .i64 i, .int .i64 0] 31 (0, 0)) := by
    have := blk_new (w.setCell ⟨b, 10, none⟩ (.int .i64 (s.made + 1 : Nat))) (.cells #[.int .i64 4, .int .i64 i, .int .i64 0] 31)
    simpa using this
  have hcast : (s.made : Int) + 1 = (s.made + 1 : Nat) := by omega
  rw [hcast]
  generalize World.alloc _ _ = w2 at *
  have hbm : w.heap.size ≠ b := by omega
  have hbf : ∀ k ∈ q.foot b, k < w.heap.size := h.lt
  have hmw : w.heap.size ≤ w2.heap.size := hcw.size
  have HW := Lib.hid (rfl : w.heap.size = w.heap.size)
  obtain ⟨mb, hmbe⟩ : ∃ mb, mb = w.heap.size := ⟨_, rfl⟩
  rw [← hmbe] at hmb hbm hbf hmw
  clear HW
  have HMB := Lib.hid hmbe
  rw [← hmbe]
  clear hcast hmbe
  obtain ⟨c0, c1, c2, c3, c4, c5, c6, c7, c8, c9, c10⟩ := hA.cells
  dsimp only at c0 c1 c2 c3 c4 c5 c6 c7 c8 c9 c10
  have m0 := blk_cell hmb 0 (v := .int .i64 4) rfl
  have m1 := blk_cell hmb 1 (v := .int .i64 i) rfl
  have m2 := blk_cell hmb 2 (v := .int .i64 0) rfl
  have hb2 := blk_lt hA.1
  have hmb2 := blk_lt hmb
  have hA2 := Lib.hid hA
  clear hA
  clear hmb
  have hA := hA2.out
  obtain ⟨g, o, cap, hv, hw0, hw1⟩ := hA.worker (k := i) hi
  have hr := hA.2.2.1
  rw [hv] at hr c5
  have hF0 := hr.frozen (o + i * 2)
  have hF1 := hr.frozen (o + i * 2 + 1)
  have HV := Lib.hid hv
  have hg : g ∈ q.foot b := by simp [LV.foot, HV.out, Value.ownBlock]
  clear hv hr
  dsimp only at hw0 hw1 c5
  go_wp2
  go_region
  all_goals
    go_wp2
    go_end0
    refine ⟨rfl, q, (hA.setW HV.out i hi (2, 0) (by simp)).chg0 ((Chg.refl _ _).drew), ?_, fun k hk => .inl hk⟩
    exact ((hcw.drew).setCell (p := ⟨g, _, none⟩) (.inl hg) _).setCell (p := ⟨g, _, none⟩) (.inl hg) _

set_option maxRecDepth 100000 in
set_option maxHeartbeats 4000000 in
theorem make_ans (w : World) (b : Nat) (s : LS) (q : LV) (h : LmIs w b s q) (hk : s.ok) (hmade : s.made + 1 ≤ 1000000) (i : Nat) (hi : i < s.ws.length) (ha : s.ans.length < 65536) (j : Nat) (hj : j ≤ 65536) :
    Calls Try.prog 43 #[.pointer (some ⟨b, 0, none⟩), .agg #[.int .i64 5, .int .i64 i, .int .i64 j]] w fun e w' => e = .returned (.tuple #[]) ∧ MakeP w b q (({ ({ s with made := s.made + 1 } : LS).setW i (0, 0) with ans := s.ans ++ [j] } : LS).looked) w' := by
  obtain ⟨c0, c1, c2, c3, c4, c5, c6, c7, c8, c9, c10⟩ := h.cells
  have hb : b < w.heap.size := World.block_lt_of_cell? _ _ c0
  have hf := blk_frozen h.1 10
  have hwl := hk.ws
  go_enter Try.func43, Try.ntmps43
  go_upto_region 2 with (fail)
  have hA : LmIs ((w.setCell ⟨b, 10, none⟩ (.int .i64 (s.made + 1 : Nat))).alloc (.cells #[.int .i64 5, .int .i64 i, .int .i64 j] 31)) b { s with made := s.made + 1 } q :=
    (h.set (s' := { s with made := s.made + 1 }) 10 _ (by omega) (by omega) rfl rfl rfl rfl ⟨hk.jobs, hk.room, hk.next, hk.ws, hk.st, hk.ch, hk.ans, hk.out, hk.top, hmade⟩).chg0 ((Chg.refl _ _).alloc _)
  have hcw : Chg (q.foot b) w ((w.setCell ⟨b, 10, none⟩ (.int .i64 (s.made + 1 : Nat))).alloc (.cells #[.int .i64 5, .int .i64 i, .int .i64 j] 31)) := ((Chg.refl _ _).setCell (by simp [LV.foot]) _).alloc _
  have hmb : ((w.setCell ⟨b, 10, none⟩ (.int .i64 (s.made + 1 : Nat))).alloc (.cells #[.int .i64 5, .int .i64 i, .int .i64 j] 31)).heap[w.heap.size]? = some (.cells #[.int .i64 5, .int .i64 i, .int .i64 j] 31 (0, 0)) := by
    have := blk_new (w.setCell ⟨b, 10, none⟩ (.int .i64 (s.made + 1 : Nat))) (.cells #[.int .i64 5, .int .i64 i, .int .i64 j] 31)
    simpa using this
  have hcast : (s.made : Int) + 1 = (s.made + 1 : Nat) := by omega
  rw [hcast]
  generalize World.alloc _ _ = w2 at *
  have hbm : w.heap.size ≠ b := by omega
  have hbf : ∀ k ∈ q.foot b, k < w.heap.size := h.lt
  have hmw : w.heap.size ≤ w2.heap.size := hcw.size
  have HW := Lib.hid (rfl : w.heap.size = w.heap.size)
  obtain ⟨mb, hmbe⟩ : ∃ mb, mb = w.heap.size := ⟨_, rfl⟩
  rw [← hmbe] at hmb hbm hbf hmw
  clear HW
  have HMB := Lib.hid hmbe
  rw [← hmbe]
  clear hcast hmbe
  obtain ⟨c0, c1, c2, c3, c4, c5, c6, c7, c8, c9, c10⟩ := hA.cells
  dsimp only at c0 c1 c2 c3 c4 c5 c6 c7 c8 c9 c10
  have m0 := blk_cell hmb 0 (v := .int .i64 5) rfl
  have m1 := blk_cell hmb 1 (v := .int .i64 i) rfl
  have m2 := blk_cell hmb 2 (v := .int .i64 j) rfl
  have hb2 := blk_lt hA.1
  have hmb2 := blk_lt hmb
  have hA2 := Lib.hid hA
  clear hA
  clear hmb
  have hA := hA2.out
  obtain ⟨g, o, cap, hv, hw0, hw1⟩ := hA.worker (k := i) hi
  have hr := hA.2.2.1
  rw [hv] at hr c5
  have hF0 := hr.frozen (o + i * 2)
  have hF1 := hr.frozen (o + i * 2 + 1)
  have HV := Lib.hid hv
  have hg : g ∈ q.foot b := by simp [LV.foot, HV.out, Value.ownBlock]
  clear hv hr
  dsimp only at hw0 hw1 c5
  go_upto_region 17 with (fail)
  go_region
  all_goals
    have hA3 := (hA.setW HV.out i hi (0, 0) (by simp)).chg0 ((Chg.refl _ _).drew)
    have hc3 := (((hcw.setCell (p := ⟨g, o + i * 2, none⟩) (.inl hg) (.int .i64 ((0, 0) : Nat × Nat).1)).setCell (p := ⟨g, o + i * 2 + 1, none⟩) (.inl hg) (.int .i64 ((0, 0) : Nat × Nat).2))).drew
    have hgm : mb ≠ g := by have := hbf g hg; omega
    have m2' : ((w2.setCell ⟨g, o + i * 2, none⟩ (.int .i64 ((0, 0) : Nat × Nat).1)).setCell ⟨g, o + i * 2 + 1, none⟩ (.int .i64 ((0, 0) : Nat × Nat).2)).drew.cell? ⟨mb, 2, none⟩ = some (.int .i64 j) := by simp [go_sem, hgm, m2]
    have hs3 : ((w2.setCell ⟨g, o + i * 2, none⟩ (.int .i64 ((0, 0) : Nat × Nat).1)).setCell ⟨g, o + i * 2 + 1, none⟩ (.int .i64 ((0, 0) : Nat × Nat).2)).drew.heap.size = w2.heap.size := by simp
    generalize hW3 : World.drew (World.setCell (World.setCell w2 _ _) _ _) = w3 at *
    rw [← hs3] at hmw
    clear hW3 hs3 c0 c1 c2 c3 c4 c5 c6 c7 c8 c9 c10 hw0 hw1 hF0 hF1 m0 m1 m2 hA hA2 hb2 hmb2 hbm hgm HV hcw
    have hA4 := Lib.hid hA3
    obtain ⟨c0, c1, c2, c3, c4, c5, c6, c7, c8, c9, c10⟩ := hA3.cells
    have hb2 := blk_lt hA3.1
    have hmb2 := World.block_lt_of_cell? _ _ m2'
    dsimp only [LS.setW] at c6 hmb2
    have hW0 : Chg [] w3 (w3.alloc (.cells #[.int .i64 j] 3)).drew := ((Chg.refl _ _).alloc _).drew
    obtain ⟨v2, w6, hap, hrow2, hch2, hat2, a2, cap2, hv2⟩ := app_int (w := (w3.alloc (.cells #[.int .i64 j] 3)).drew) (hA3.2.2.2.1.chg0 hW0) (by show s.ans.length ≤ 100000; omega) j w3.heap.size (blk_drew (blk_new w3 _))
    have hN := hA3.newAns hW0 hch2 v2 (s.ans ++ [j]) hrow2 hat2 ⟨hk.jobs, hk.room, hk.next, by simp only [LS.setW, List.length_set]; exact hk.ws, hA3.2.2.2.2.2.st, hk.ch, ⟨by simp; omega, by
      intro k hk'
      simp at hk'
      rcases hk' with hk' | rfl
      · exact hk.ans.2 k hk'
      · exact hj⟩, hk.out, hk.top, hmade⟩
    have hb6 := hch2.at (hW0.at hA3.1 (by simp)) (foot_ne h.2.2.2.2.1).2.2.1
    have x6 := blk_cell hb6 6 (v := q.av) rfl
    have f6 := blk_frozen hb6 6
    have hl6 := blk_lt hb6
    obtain ⟨hN1, hN2, hN3⟩ := hN
    generalize hnn : List.length (_ : List Nat) + 1 = n2 at hv2
    have HV := Lib.hid hv2
    simp only [hv2] at hap
    have HN3 : ∀ k ∈ ({ q with av := v2 } : LV).foot b, k ∈ q.foot b ∨ w.heap.size ≤ k := fun k hk => (hN3 k hk).imp id (fun e => by rw [HMB.out] at hmw; omega)
    rw [hv2] at hN1 hN2
    have HN1 := Lib.hid hN1
    clear hv2 hb6 hch2 hW0 hrow2 hat2 hN1 hN3 hA3
    go_upto_region 18 with (fail)
    go_region
    all_goals
      go_wp2_with (go_at_call 33; refine (looked_calls _ b _ _ HN1.out).mono ?_; rintro e w8 ⟨rfl, h8, hc8⟩)
      go_end0
      refine ⟨rfl, _, h8, (hc3.trans hN2 (fun x hx => .inl hx)).trans hc8 (fun x hx => .inl (by simp at hx; simp [LV.foot, hx])), ?_⟩
      rw [← HV.out]
      exact HN3

theorem give_fin {w w4 w5 : World} {b : Nat} {s4 : LS} {q q3 : LV} (hc4 : Chg (q.foot b) w w4) (hf3 : ∀ k ∈ q3.foot b, k ∈ q.foot b ∨ w.heap.size ≤ k) (hA5 : LmIs w5 b s4 q3) (hc5 : Chg [] w4.drew w5) (t : Nat) {top : Nat} (ht : t = max top s4.gauge) (htop : top ≤ 64) :
    MakeP w b q { s4 with top := max top s4.gauge } (w5.setCell ⟨b, 9, none⟩ (.int .i64 t)) := by
  subst ht
  have hk := hA5.2.2.2.2.2
  have hgl : s4.gauge ≤ 64 := Nat.le_trans (List.length_filter_le _ _) hk.ws
  exact ⟨q3, hA5.set (s' := { s4 with top := max top s4.gauge }) 9 _ (by omega) (by omega) rfl rfl rfl rfl ⟨hk.jobs, hk.room, hk.next, hk.ws, hk.st, hk.ch, hk.ans, hk.out, by show max top s4.gauge ≤ 64; omega, hk.made⟩, (hc4.drew.nil_trans hc5).setCell (hf3 b (by simp [LV.foot])) _, hf3⟩


set_option maxRecDepth 100000 in
set_option maxHeartbeats 4000000 in
theorem make_give0 (w : World) (b : Nat) (s : LS) (q : LV) (h : LmIs w b s q) (hk : s.ok) (hmade : s.made + 1 ≤ 1000000) (i : Nat) (hi : i < s.ws.length) (h0 : s.room = 0) (hn : s.next < s.jobs) (j : Nat) (hj : j ≤ 65536) :
    Calls Try.prog 43 #[.pointer (some ⟨b, 0, none⟩), .agg #[.int .i64 2, .int .i64 i, .int .i64 j]] w fun e w' => e = .returned (.tuple #[]) ∧
      MakeP w b q { (({ s with made := s.made + 1, next := s.next + 1 } : LS).setW i (1, j)) with top := max s.top (({ s with made := s.made + 1, next := s.next + 1 } : LS).setW i (1, j)).gauge } w' := by
  obtain ⟨c0, c1, c2, c3, c4, c5, c6, c7, c8, c9, c10⟩ := h.cells
  have hb : b < w.heap.size := World.block_lt_of_cell? _ _ c0
  have hf := blk_frozen h.1 10
  have hwl := hk.ws
  have hjb := hk.jobs
  go_enter Try.func43, Try.ntmps43
  go_upto_region 2 with (fail)
  have hA : LmIs ((w.setCell ⟨b, 10, none⟩ (.int .i64 (s.made + 1 : Nat))).alloc (.cells #[.int .i64 2, .int .i64 i, .int .i64 j] 31)) b { s with made := s.made + 1 } q :=
    (h.set (s' := { s with made := s.made + 1 }) 10 _ (by omega) (by omega) rfl rfl rfl rfl ⟨hk.jobs, hk.room, hk.next, hk.ws, hk.st, hk.ch, hk.ans, hk.out, hk.top, hmade⟩).chg0 ((Chg.refl _ _).alloc _)
  have hcw : Chg (q.foot b) w ((w.setCell ⟨b, 10, none⟩ (.int .i64 (s.made + 1 : Nat))).alloc (.cells #[.int .i64 2, .int .i64 i, .int .i64 j] 31)) := ((Chg.refl _ _).setCell (by simp [LV.foot]) _).alloc _
  have hmb : ((w.setCell ⟨b, 10, none⟩ (.int .i64 (s.made + 1 : Nat))).alloc (.cells #[.int .i64 2, .int .i64 i, .int .i64 j] 31)).heap[w.heap.size]? = some (.cells #[.int .i64 2, .int .i64 i, .int .i64 j] 31 (0, 0)) := by
    have := blk_new (w.setCell ⟨b, 10, none⟩ (.int .i64 (s.made + 1 : Nat))) (.cells #[.int .i64 2, .int .i64 i, .int .i64 j] 31)
    simpa using this
  have hcast : (s.made : Int) + 1 = (s.made + 1 : Nat) := by omega
  rw [hcast]
  generalize World.alloc _ _ = w2 at *
  have hbm : w.heap.size ≠ b := by omega
  have hbf : ∀ k ∈ q.foot b, k < w.heap.size := h.lt
  have hmw : w.heap.size ≤ w2.heap.size := hcw.size
  have HW := Lib.hid (rfl : w.heap.size = w.heap.size)
  obtain ⟨mb, hmbe⟩ : ∃ mb, mb = w.heap.size := ⟨_, rfl⟩
  rw [← hmbe] at hmb hbm hbf hmw
  clear HW
  have HMB := Lib.hid hmbe
  rw [← hmbe]
  clear hcast hmbe
  obtain ⟨c0, c1, c2, c3, c4, c5, c6, c7, c8, c9, c10⟩ := hA.cells
  dsimp only at c0 c1 c2 c3 c4 c5 c6 c7 c8 c9 c10
  have m0 := blk_cell hmb 0 (v := .int .i64 2) rfl
  have m1 := blk_cell hmb 1 (v := .int .i64 i) rfl
  have m2 := blk_cell hmb 2 (v := .int .i64 j) rfl
  have hb2 := blk_lt hA.1
  have hmb2 := blk_lt hmb
  have hA2 := Lib.hid hA
  clear hA
  clear hmb
  have hA := hA2.out
  have f2 := blk_frozen hA.1 2
  have H0 := Lib.hid h0
  rw [h0] at c1
  clear h0
  go_upto_region 10 with (fail)
  have hB : LmIs (w2.setCell ⟨b, 2, none⟩ (.int .i64 (s.next + 1 : Nat))) b { s with made := s.made + 1, next := s.next + 1 } q := hA.set (s' := { s with made := s.made + 1, next := s.next + 1 }) 2 _ (by omega) (by omega) rfl rfl rfl rfl ⟨hk.jobs, hk.room, hn, hk.ws, hk.st, hk.ch, hk.ans, hk.out, hk.top, hmade⟩
  have hc3 : Chg (q.foot b) w (w2.setCell ⟨b, 2, none⟩ (.int .i64 (s.next + 1 : Nat))) := hcw.setCell (by simp [LV.foot]) _
  have hbm' : mb ≠ b := by omega
  have m1' : (w2.setCell ⟨b, 2, none⟩ (.int .i64 (s.next + 1 : Nat))).cell? ⟨mb, 1, none⟩ = some (.int .i64 i) := by simp [go_sem, hbm', m1]
  have m2' : (w2.setCell ⟨b, 2, none⟩ (.int .i64 (s.next + 1 : Nat))).cell? ⟨mb, 2, none⟩ = some (.int .i64 j) := by simp [go_sem, hbm', m2]
  have hcast : (s.next : Int) + 1 = (s.next + 1 : Nat) := by omega
  rw [hcast]
  clear hcast
  generalize World.setCell w2 _ _ = w3 at *
  clear c0 c1 c2 c3 c4 c5 c6 c7 c8 c9 c10 m0 m1 m2 hA2 hb2 hmb2 f2 hcw
  have hi3 : i < ({ s with made := s.made + 1, next := s.next + 1 } : LS).ws.length := hi
  have htop : ({ s with made := s.made + 1, next := s.next + 1 } : LS).top = s.top := rfl
  generalize hS3 : ({ s with made := s.made + 1, next := s.next + 1 } : LS) = s3 at *
  have HT := Lib.hid htop
  have HS3 := Lib.hid hS3
  clear htop hS3
  have m1 := m1'
  have m2 := m2'
  have m0 := m1'
  clear m1' m2'
  replace hA := hB
  clear hB
  obtain ⟨q3, hq3⟩ : ∃ q3, q3 = q := ⟨_, rfl⟩
  have hf3 : ∀ k ∈ q3.foot b, k ∈ q.foot b ∨ w.heap.size ≤ k := fun k hk => .inl (hq3 ▸ hk)
  rw [← hq3] at hA
  clear hq3
  have hA4 := Lib.hid hA
  have hwl3 : s3.ws.length ≤ 64 := hA.2.2.2.2.2.ws
  obtain ⟨c0, c1, c2, c3, c4, c5, c6, c7, c8, c9, c10⟩ := hA.cells
  obtain ⟨g, o, cap, hv, hw0, hw1⟩ := hA.worker (k := i) hi3
  have hr := hA.2.2.1
  rw [hv] at hr c5
  have hF0 := hr.frozen (o + i * 2)
  have hF1 := hr.frozen (o + i * 2 + 1)
  have HV := Lib.hid hv
  have hg : g ∈ q3.foot b := by simp [LV.foot, HV.out, Value.ownBlock]
  have hb2 := blk_lt hA.1
  have hmb2 := World.block_lt_of_cell? _ _ m2
  clear hv hr hA
  go_upto_region 10 with (fail)
  go_region
  all_goals
    have hA3 := (hA4.out.setW HV.out i hi3 (1, j) ⟨by simp, hj⟩).chg0 ((Chg.refl _ _).drew)
    have hc4 := (((hc3.setCell (p := ⟨g, o + i * 2, none⟩) (hf3 g hg) (.int .i64 ((1, j) : Nat × Nat).1)).setCell (p := ⟨g, o + i * 2 + 1, none⟩) (hf3 g hg) (.int .i64 ((1, j) : Nat × Nat).2))).drew
    generalize hW3 : World.drew (World.setCell (World.setCell w3 _ _) _ _) = w4 at *
    clear hW3 c0 c1 c2 c3 c4 c5 c6 c7 c8 c9 c10 hw0 hw1 hF0 hF1 m0 m1 m2 hA4 hb2 hmb2 HV
    obtain ⟨c0, c1, c2, c3, c4, c5, c6, c7, c8, c9, c10⟩ := hA3.cells
    have f9 := blk_frozen hA3.1 9
    have hb4 := blk_lt hA3.1
    have hA4 := Lib.hid hA3
    clear hA3
    have hgl : (s3.setW i (1, j)).gauge ≤ 64 := Nat.le_trans (List.length_filter_le _ _) hA4.out.2.2.2.2.2.ws
    have htl : (s3.setW i (1, j)).top ≤ 64 := hA4.out.2.2.2.2.2.top
    go_upto_region 11 with (fail)
    go_region_with (go_at_call 12; refine (gauge_calls _ b _ q3 (hA4.out.chg0 ((Chg.refl _ _).drew))).mono ?_; rintro e w5 ⟨rfl, hc5⟩; have hb5 := hc5.at (blk_drew hA4.out.1) (by simp); have x9 := blk_cell hb5 9 (v := .int .i64 (s3.setW i (1, j)).top) rfl; have f9' := blk_frozen hb5 9; have hA5 := Lib.hid ((hA4.out.chg0 ((Chg.refl _ _).drew)).chg0 hc5); have hl5 := blk_lt hb5; clear hb5)
    all_goals
      go_wp2
      all_goals
        go_end0
        refine ⟨rfl, ?_⟩
        try rw [HS3.out]
        refine give_fin hc4 hf3 hA5.out hc5 _ ?_ hk.top
        have e : (s3.setW i (1, j)).top = s.top := HT.out
        omega


set_option maxRecDepth 100000 in
set_option maxHeartbeats 4000000 in
theorem make_giveq (w : World) (b : Nat) (s : LS) (q : LV) (h : LmIs w b s q) (hk : s.ok) (hmade : s.made + 1 ≤ 1000000) (i : Nat) (hi : i < s.ws.length) (h0 : 0 < s.room) (j : Nat) (l : List Nat) (hl : s.ch = j :: l) (hj : j ≤ 65536) :
    Calls Try.prog 43 #[.pointer (some ⟨b, 0, none⟩), .agg #[.int .i64 2, .int .i64 i, .int .i64 j]] w fun e w' => e = .returned (.tuple #[]) ∧
      MakeP w b q { (({ s with made := s.made + 1, ch := l } : LS).setW i (1, j)) with top := max s.top (({ s with made := s.made + 1, ch := l } : LS).setW i (1, j)).gauge } w' := by
  obtain ⟨c0, c1, c2, c3, c4, c5, c6, c7, c8, c9, c10⟩ := h.cells
  have hb : b < w.heap.size := World.block_lt_of_cell? _ _ c0
  have hf := blk_frozen h.1 10
  have hwl := hk.ws
  have hjb := hk.jobs
  have hlc := hk.ch
  rw [hl] at hlc
  have hll : l.length ≤ 65536 := by have := hlc.1; simp at this; omega
  have hlm : ∀ k ∈ l, k ≤ 65536 := fun k hk => hlc.2 k (by simp [hk])
  clear hlc
  have HL := Lib.hid hl
  clear hl
  go_enter Try.func43, Try.ntmps43
  go_upto_region 2 with (fail)
  have hA : LmIs ((w.setCell ⟨b, 10, none⟩ (.int .i64 (s.made + 1 : Nat))).alloc (.cells #[.int .i64 2, .int .i64 i, .int .i64 j] 31)) b { s with made := s.made + 1 } q :=
    (h.set (s' := { s with made := s.made + 1 }) 10 _ (by omega) (by omega) rfl rfl rfl rfl ⟨hk.jobs, hk.room, hk.next, hk.ws, hk.st, hk.ch, hk.ans, hk.out, hk.top, hmade⟩).chg0 ((Chg.refl _ _).alloc _)
  have hcw : Chg (q.foot b) w ((w.setCell ⟨b, 10, none⟩ (.int .i64 (s.made + 1 : Nat))).alloc (.cells #[.int .i64 2, .int .i64 i, .int .i64 j] 31)) := ((Chg.refl _ _).setCell (by simp [LV.foot]) _).alloc _
  have hmb : ((w.setCell ⟨b, 10, none⟩ (.int .i64 (s.made + 1 : Nat))).alloc (.cells #[.int .i64 2, .int .i64 i, .int .i64 j] 31)).heap[w.heap.size]? = some (.cells #[.int .i64 2, .int .i64 i, .int .i64 j] 31 (0, 0)) := by
    have := blk_new (w.setCell ⟨b, 10, none⟩ (.int .i64 (s.made + 1 : Nat))) (.cells #[.int .i64 2, .int .i64 i, .int .i64 j] 31)
    simpa using this
  have hcast : (s.made : Int) + 1 = (s.made + 1 : Nat) := by omega
  rw [hcast]
  generalize World.alloc _ _ = w2 at *
  have hbm : w.heap.size ≠ b := by omega
  have hbf : ∀ k ∈ q.foot b, k < w.heap.size := h.lt
  have hmw : w.heap.size ≤ w2.heap.size := hcw.size
  have HW := Lib.hid (rfl : w.heap.size = w.heap.size)
  obtain ⟨mb, hmbe⟩ : ∃ mb, mb = w.heap.size := ⟨_, rfl⟩
  rw [← hmbe] at hmb hbm hbf hmw
  clear HW
  have HMB := Lib.hid hmbe
  rw [← hmbe]
  clear hcast hmbe
  obtain ⟨c0, c1, c2, c3, c4, c5, c6, c7, c8, c9, c10⟩ := hA.cells
  dsimp only at c0 c1 c2 c3 c4 c5 c6 c7 c8 c9 c10
  have m0 := blk_cell hmb 0 (v := .int .i64 2) rfl
  have m1 := blk_cell hmb 1 (v := .int .i64 i) rfl
  have m2 := blk_cell hmb 2 (v := .int .i64 j) rfl
  have hb2 := blk_lt hA.1
  have hmb2 := blk_lt hmb
  have hA2 := Lib.hid hA
  clear hA
  clear hmb
  have hA := hA2.out
  have f3 := blk_frozen hA.1 3
  have hrow : RowIs w2 3 1 q.cv (l.length + 1) (iCells (j :: l)) := by
    have := hA.2.1
    rw [show ({ s with made := s.made + 1 } : LS).ch = j :: l from HL.out] at this
    exact this
  obtain ⟨cg, co, ccap, hcv, hcc, hown⟩ := hrow.ptr (by omega)
  rw [hcv] at c3 hrow
  have hcm : ccap ≤ maxLen := by
    obtain ⟨_, ⟨x, _⟩ | ⟨g', o', cap', cur, x, _, _, hm, _⟩⟩ := hrow
    · cases x
    · simp at x; omega
  have HCV := Lib.hid hcv
  have HOWN := Lib.hid hown
  have HROW := Lib.hid hrow.tail
  clear hcv hown hrow hA
  unfold maxLen at hcm
  go_upto_region 10 with (fail)
  have hv2 : ∃ v2, v2 = Value.slice (if ccap = 1 then some ⟨cg, co, none⟩ else some ⟨cg, co + 1, none⟩) l.length (ccap - 1) := ⟨_, rfl⟩
  obtain ⟨v2, hv2⟩ := hv2
  have hown2 : v2.ownBlock = q.cv.ownBlock := by
    rw [hv2, HOWN.out]
    by_cases e : ccap = 1
    · rw [if_pos e]; rfl
    · rw [if_neg e]; rfl
  have hrow2 : RowIs w2 3 1 v2 l.length (iCells l) := by
    have := HROW.out
    rw [hv2]
    simpa [iCells] using this
  rw [← hv2]
  have hN := hA2.out.newCh (Chg.refl _ _) (Chg.refl _ _) v2 l hrow2 (.inl hown2) ⟨hk.jobs, hk.room, hk.next, hk.ws, hk.st, ⟨hll, hlm⟩, hk.ans, hk.out, hk.top, hmade⟩
  obtain ⟨hN1, hN2, hN3⟩ := hN
  have hB : LmIs (w2.setCell ⟨b, 3, none⟩ v2) b { s with made := s.made + 1, ch := l } { q with cv := v2 } := hN1
  have hc3 : Chg (q.foot b) w (w2.setCell ⟨b, 3, none⟩ v2) := hcw.trans hN2 (fun x hx => .inl hx)
  have hf3 : ∀ k ∈ ({ q with cv := v2 } : LV).foot b, k ∈ q.foot b ∨ w.heap.size ≤ k := fun k hk => (hN3 k hk).imp id (fun e => by rw [HMB.out] at hmw; omega)
  have hbm' : mb ≠ b := by omega
  have m1' : (w2.setCell ⟨b, 3, none⟩ v2).cell? ⟨mb, 1, none⟩ = some (.int .i64 i) := by simp [go_sem, hbm', m1]
  have m2' : (w2.setCell ⟨b, 3, none⟩ v2).cell? ⟨mb, 2, none⟩ = some (.int .i64 j) := by simp [go_sem, hbm', m2]
  generalize World.setCell w2 _ _ = w3 at *
  clear c0 c1 c2 c3 c4 c5 c6 c7 c8 c9 c10 m0 m1 m2 hA2 hb2 hmb2 f3 hcw hv2 hown2 hrow2 hN1 hN2 hN3 HROW HOWN HCV
  have hi3 : i < ({ s with made := s.made + 1, ch := l } : LS).ws.length := hi
  have htop : ({ s with made := s.made + 1, ch := l } : LS).top = s.top := rfl
  generalize hS3 : ({ s with made := s.made + 1, ch := l } : LS) = s3 at *
  generalize hQ3 : ({ q with cv := v2 } : LV) = q3 at *
  have HT := Lib.hid htop
  have HS3 := Lib.hid hS3
  clear htop hS3 hQ3
  have m1 := m1'
  have m2 := m2'
  have m0 := m1'
  clear m1' m2'
  have hA := hB
  clear hB
  have hA4 := Lib.hid hA
  have hwl3 : s3.ws.length ≤ 64 := hA.2.2.2.2.2.ws
  obtain ⟨c0, c1, c2, c3, c4, c5, c6, c7, c8, c9, c10⟩ := hA.cells
  obtain ⟨g, o, cap, hv, hw0, hw1⟩ := hA.worker (k := i) hi3
  have hr := hA.2.2.1
  rw [hv] at hr c5
  have hF0 := hr.frozen (o + i * 2)
  have hF1 := hr.frozen (o + i * 2 + 1)
  have HV := Lib.hid hv
  have hg : g ∈ q3.foot b := by simp [LV.foot, HV.out, Value.ownBlock]
  have hb2 := blk_lt hA.1
  have hmb2 := World.block_lt_of_cell? _ _ m2
  clear hv hr hA
  go_upto_region 10 with (fail)
  go_region
  all_goals
    have hA3 := (hA4.out.setW HV.out i hi3 (1, j) ⟨by simp, hj⟩).chg0 ((Chg.refl _ _).drew)
    have hc4 := (((hc3.setCell (p := ⟨g, o + i * 2, none⟩) (hf3 g hg) (.int .i64 ((1, j) : Nat × Nat).1)).setCell (p := ⟨g, o + i * 2 + 1, none⟩) (hf3 g hg) (.int .i64 ((1, j) : Nat × Nat).2))).drew
    generalize hW3 : World.drew (World.setCell (World.setCell w3 _ _) _ _) = w4 at *
    clear hW3 c0 c1 c2 c3 c4 c5 c6 c7 c8 c9 c10 hw0 hw1 hF0 hF1 m0 m1 m2 hA4 hb2 hmb2 HV
    obtain ⟨c0, c1, c2, c3, c4, c5, c6, c7, c8, c9, c10⟩ := hA3.cells
    have f9 := blk_frozen hA3.1 9
    have hb4 := blk_lt hA3.1
    have hA4 := Lib.hid hA3
    clear hA3
    have hgl : (s3.setW i (1, j)).gauge ≤ 64 := Nat.le_trans (List.length_filter_le _ _) hA4.out.2.2.2.2.2.ws
    have htl : (s3.setW i (1, j)).top ≤ 64 := hA4.out.2.2.2.2.2.top
    go_upto_region 11 with (fail)
    go_region_with (go_at_call 12; refine (gauge_calls _ b _ q3 (hA4.out.chg0 ((Chg.refl _ _).drew))).mono ?_; rintro e w5 ⟨rfl, hc5⟩; have hb5 := hc5.at (blk_drew hA4.out.1) (by simp); have x9 := blk_cell hb5 9 (v := .int .i64 (s3.setW i (1, j)).top) rfl; have f9' := blk_frozen hb5 9; have hA5 := Lib.hid ((hA4.out.chg0 ((Chg.refl _ _).drew)).chg0 hc5); have hl5 := blk_lt hb5; clear hb5)
    all_goals
      go_wp2
      all_goals
        go_end0
        refine ⟨rfl, ?_⟩
        try rw [HS3.out]
        refine give_fin hc4 hf3 hA5.out hc5 _ ?_ hk.top
        have e : (s3.setW i (1, j)).top = s.top := HT.out
        omega
end Go.Proofs.Ytfmdghijbkddpaa

/- The document's loom: what a move makes: the walk; Move. -/
import Derived.Test.YtfmdghijbkddpaaLmRc
import Derived.Test.YtfmdghijbkddpaaLmRb
import Derived.Test.YtfmdghijbkddpaaLmF
import Derived.BigQuiet
namespace Go.Proofs.Ytfmdghijbkddpaa
open Go.RowKit
set_option linter.unusedVariables false
set_option linter.unusedSimpArgs false

theorem mk0_give (s : LS) (i : Nat) (hi : s.inv) (hg : 0 ≤ s.given) :
    (s.room = 0 ∧ s.next < s.jobs ∧ s.given = s.next ∧ s.mk0 ⟨2, i, s.given⟩ = ({ s with made := s.made + 1, next := s.next + 1 } : LS).setW i (1, s.next)) ∨
    (0 < s.room ∧ ∃ j l, s.ch = j :: l ∧ s.given = (j : Nat) ∧ s.mk0 ⟨2, i, s.given⟩ = ({ s with made := s.made + 1, ch := l } : LS).setW i (1, j)) := by
  rcases given_can s hi hg with ⟨g1, g2, g3, g4⟩ | ⟨g1, j, l, g2, g3⟩
  · refine .inl ⟨g1, g3, g4, ?_⟩
    unfold LS.mk0
    simp only [g1, g4]
    rfl
  · refine .inr ⟨g1, j, l, g2, g3, ?_⟩
    unfold LS.mk0
    have : ¬ s.room = 0 := by omega
    simp only [this, g3, g2]
    rfl

theorem RefIs.frz {w : World} {b : Nat} {s : LS} {q : RV} (h : RefIs w b s q) {g o cap : Nat} (hv : q.lv.wv = .slice (some ⟨g, o, none⟩) s.ws.length cap) (i : Nat) : w.frozen? ⟨g, i, none⟩ = false := by
  have hr := h.2.2.1
  rw [h.2.2.2.2.2.2.len, hv] at hr
  exact hr.frozen i

/-- A worker that is handed a job, that has answered, that has left. -/
theorem RefIs.busy {w : World} {b : Nat} {s : LS} {q : RV} (h : RefIs w b s q) {g o cap : Nat} (hv : q.lv.wv = .slice (some ⟨g, o, none⟩) s.ws.length cap) (i : Nat) (hi : i < s.ws.length) (hx : isIdle s.ws[i] = true) (j : Nat) (hj : j ≤ 65536) :
    ∃ q', RefIs (w.setCell ⟨g, o + i * 2, none⟩ (.int .i64 j)) b (s.setW i (1, j)) q' ∧ q'.lv = q.lv := by
  have hl := h.2.2.2.2.2.2.len
  have hw := h.2.2.2.2.2.2.nth i hi (by omega)
  have hg := hw.gone
  rw [(idle_st hx).2] at hg
  exact ⟨_, h.setR hv i hi (1, j) ((j : Int), (q.rs[i]'(by omega)).2) ⟨by simp, hj⟩ ⟨by simp [hg], by simp, by simp, by simp only; omega, by simp only; omega⟩ (i * 2) _ (rCells_set1 q.rs i (by omega) _) (by omega), rfl⟩
theorem RefIs.idle {w : World} {b : Nat} {s : LS} {q : RV} (h : RefIs w b s q) {g o cap : Nat} (hv : q.lv.wv = .slice (some ⟨g, o, none⟩) s.ws.length cap) (i : Nat) (hi : i < s.ws.length) (hx : isBusy s.ws[i] = true) :
    ∃ q', RefIs (w.setCell ⟨g, o + i * 2, none⟩ (.int .i64 (-1))) b (s.setW i (0, 0)) q' ∧ q'.lv = q.lv := by
  have hl := h.2.2.2.2.2.2.len
  have hw := h.2.2.2.2.2.2.nth i hi (by omega)
  have hg := hw.gone
  rw [busy_st hx] at hg
  exact ⟨_, h.setR hv i hi (0, 0) (-1, (q.rs[i]'(by omega)).2) ⟨by simp, by simp⟩ ⟨by simp [hg], by simp, by simp, by simp, by simp⟩ (i * 2) _ (rCells_set1 q.rs i (by omega) _) (by omega), rfl⟩
theorem RefIs.gone {w : World} {b : Nat} {s : LS} {q : RV} (h : RefIs w b s q) {g o cap : Nat} (hv : q.lv.wv = .slice (some ⟨g, o, none⟩) s.ws.length cap) (i : Nat) (hi : i < s.ws.length) :
    ∃ q', RefIs (w.setCell ⟨g, o + i * 2 + 1, none⟩ (.bool true)) b (s.setW i (2, 0)) q' ∧ q'.lv = q.lv := by
  have hl := h.2.2.2.2.2.2.len
  have hw := h.2.2.2.2.2.2.nth i hi (by omega)
  have := h.setR hv i hi (2, 0) ((q.rs[i]'(by omega)).1, true) ⟨by simp, by simp⟩ ⟨by simp, by simp, by simp, hw.lo, hw.hi⟩ (i * 2 + 1) _ (rCells_set2 q.rs i (by omega) _) (by omega)
  rw [← Nat.add_assoc] at this
  exact ⟨_, this, rfl⟩

set_option maxRecDepth 100000 in
set_option maxHeartbeats 4000000 in
theorem rmake_calls (w : World) (b : Nat) (s : LS) (q : RV) (m : Mv) (h : RefIs w b s q) (hg : s.good) (hc : s.Can m) :
    Calls Try.prog 45 #[.pointer (some ⟨b, 0, none⟩), .agg #[.int .i64 m.kind, .int .i64 m.who, .int .i64 m.job]] w fun e w' => e = .returned (.tuple #[]) ∧ RMakeP w b q (s.make m) w' := by
  have hk := hg.ok
  have hi := hg.1
  have hmade : s.made + 1 ≤ 1000000 := by have := hg.2; omega
  have HC := Lib.hid hc
  obtain ⟨hm1, hm2, hm3⟩ := mk0_make s m hi hc
  have HM1 := Lib.hid hm1
  clear hc hm1
  obtain ⟨c0, c1, c2, c3, c4, c5, c6, c7, c8, c9, c10, c11, c12⟩ := h.cells
  have hb : b < w.heap.size := World.block_lt_of_cell? _ _ c0
  have hf := blk_frozen h.1 11
  go_enter Try.func45, Try.ntmps45
  go_upto_region 2 with (fail)
  have hA : RefIs ((w.setCell ⟨b, 11, none⟩ (.int .i64 (s.made + 1 : Nat))).alloc (.cells #[.int .i64 m.kind, .int .i64 m.who, .int .i64 m.job] 31)) b { s with made := s.made + 1 } q :=
    (h.set (s' := { s with made := s.made + 1 }) 11 _ (by omega) (by omega) rfl rfl rfl rfl ⟨hk.jobs, hk.room, hk.next, hk.ws, hk.st, hk.ch, hk.ans, hk.out, hk.top, hmade⟩).chg0 ((Chg.refl _ _).alloc _)
  have hcw : Chg (q.lv.foot b) w ((w.setCell ⟨b, 11, none⟩ (.int .i64 (s.made + 1 : Nat))).alloc (.cells #[.int .i64 m.kind, .int .i64 m.who, .int .i64 m.job] 31)) := ((Chg.refl _ _).setCell (by simp [LV.foot]) _).alloc _
  have hmb : ((w.setCell ⟨b, 11, none⟩ (.int .i64 (s.made + 1 : Nat))).alloc (.cells #[.int .i64 m.kind, .int .i64 m.who, .int .i64 m.job] 31)).heap[w.heap.size]? = some (.cells #[.int .i64 m.kind, .int .i64 m.who, .int .i64 m.job] 31 (0, 0)) := by
    have := blk_new (w.setCell ⟨b, 11, none⟩ (.int .i64 (s.made + 1 : Nat))) (.cells #[.int .i64 m.kind, .int .i64 m.who, .int .i64 m.job] 31)
    simpa using this
  have hcast : (s.made : Int) + 1 = (s.made + 1 : Nat) := by omega
  rw [hcast]
  generalize World.alloc _ _ = w2 at *
  have hbf : ∀ k ∈ q.lv.foot b, k < w.heap.size := h.lt
  have hmw : w.heap.size ≤ w2.heap.size := hcw.size
  obtain ⟨mb, hmbe⟩ : ∃ mb, mb = w.heap.size := ⟨_, rfl⟩
  rw [← hmbe] at hmb hbf hmw
  have HMB := Lib.hid hmbe
  rw [← hmbe]
  clear hcast hmbe c0 c1 c2 c3 c4 c5 c6 c7 c8 c9 c10 c11 c12 hf
  have m0 := blk_cell hmb 0 (v := .int .i64 m.kind) rfl
  have m1 := blk_cell hmb 1 (v := .int .i64 m.who) rfl
  have m2 := blk_cell hmb 2 (v := .int .i64 m.job) rfl
  have hb2 := blk_lt hA.1
  have hmb2 := blk_lt hmb
  have hbm : mb ≠ b := by have := hbf b (by simp [LV.foot]); omega
  have hN0 := foot_ne h.2.2.2.2.1
  clear hmb
  go_cut [13] from 12 to 12 (fun kk wx => kk = .int .i64 m.kind ∧ wx = w2)
  case first =>
    go_wp2
    go_meet
    exact ⟨rfl, rfl⟩
  case rest =>
  obtain ⟨rfl, hwe⟩ := hcut
  obtain rfl : w2 = wc := hwe.symm
  go_step
  go_cut [] from 12 to 12 (fun wx => RMakeP w b q (s.mk0 m) wx)
  case first =>
    have hc := HC.out
    clear hm2 hm3 HM1 HC
    cases hc with
    | shut g1 g2 =>
      obtain ⟨c0, c1, c2, c3, c4, c5, c6, c7, c8, c9, c10, c11, c12⟩ := hA.cells
      try dsimp only [LS.setW] at c0 c1 c2 c3 c4 c5 c6 c7 c8 c9 c10 c11 c12
      have f5 := blk_frozen hA.1 5
      have f3 := blk_frozen hA.1 3
      have hU := hA.upd (s' := { s with made := s.made + 1, shut := true }) (((Chg.refl [b] w2).setCell (p := ⟨b, 5, none⟩) (by simp) (.bool true)).setCell (p := ⟨b, 3, none⟩) (by simp) (.bool true)) (blk_set (blk_set hA.1 5 _) 3 _) rfl rfl rfl ⟨hk.jobs, hk.room, hk.next, hk.ws, hk.st, hk.ch, hk.ans, hk.out, hk.top, hmade⟩
      have HU := Lib.hid hU
      clear hU hA
      go_wp2
      go_meet
      exact ⟨q, HU.out, (hcw.setCell (by simp [LV.foot]) _).setCell (by simp [LV.foot]) _, fun k hk => .inl hk⟩
    | feeder g1 g2 =>
      obtain ⟨c0, c1, c2, c3, c4, c5, c6, c7, c8, c9, c10, c11, c12⟩ := hA.cells
      try dsimp only [LS.setW] at c0 c1 c2 c3 c4 c5 c6 c7 c8 c9 c10 c11 c12
      have f5 := blk_frozen hA.1 5
      have f3 := blk_frozen hA.1 3
      have hU := hA.upd (s' := { s with made := s.made + 1, shut := true }) (((Chg.refl [b] w2).setCell (p := ⟨b, 5, none⟩) (by simp) (.bool true)).setCell (p := ⟨b, 3, none⟩) (by simp) (.bool true)) (blk_set (blk_set hA.1 5 _) 3 _) rfl rfl rfl ⟨hk.jobs, hk.room, hk.next, hk.ws, hk.st, hk.ch, hk.ans, hk.out, hk.top, hmade⟩
      have HU := Lib.hid hU
      clear hU hA
      go_wp2
      go_meet
      exact ⟨q, HU.out, (hcw.setCell (by simp [LV.foot]) _).setCell (by simp [LV.foot]) _, fun k hk => .inl hk⟩
    | coll g1 g2 =>
      obtain ⟨c0, c1, c2, c3, c4, c5, c6, c7, c8, c9, c10, c11, c12⟩ := hA.cells
      try dsimp only [LS.setW] at c0 c1 c2 c3 c4 c5 c6 c7 c8 c9 c10 c11 c12
      have f7 := blk_frozen hA.1 7
      have f9 := blk_frozen hA.1 9
      have hU := hA.upd (s' := { s with made := s.made + 1, out := 2 }) (((Chg.refl [b] w2).setCell (p := ⟨b, 7, none⟩) (by simp) (.bool true)).setCell (p := ⟨b, 9, none⟩) (by simp) (.int .i64 2)) (blk_set (blk_set hA.1 7 _) 9 _) rfl rfl rfl ⟨hk.jobs, hk.room, hk.next, hk.ws, hk.st, hk.ch, hk.ans, by simp, hk.top, hmade⟩
      have HU := Lib.hid hU
      clear hU hA
      go_wp2
      go_meet
      exact ⟨q, HU.out, (hcw.setCell (by simp [LV.foot]) _).setCell (by simp [LV.foot]) _, fun k hk => .inl hk⟩
    | leave i hi' g1 g2 g3 =>
      have hi9 : i < 64 := by have := hk.ws; omega
      obtain ⟨c0, c1, c2, c3, c4, c5, c6, c7, c8, c9, c10, c11, c12⟩ := hA.cells
      try dsimp only [LS.setW] at c0 c1 c2 c3 c4 c5 c6 c7 c8 c9 c10 c11 c12
      obtain ⟨g, o, cap, hv, hcp, y, hy, hw0, hw1⟩ := hA.worker (k := i) hi'
      have hfz := fun k => hA.frz hv k
      have hF0 := hfz (o + i * 2)
      have hF1 := hfz (o + i * 2 + 1)
      rw [hv] at c6
      have hwgl := World.block_lt_of_cell? _ _ hw0
      have HV := Lib.hid hv
      have hgf : g ∈ q.lv.foot b := by simp [LV.foot, HV.out, Value.ownBlock]
      clear hv hfz hy
      obtain ⟨q4, hq4, hq5⟩ := hA.gone HV.out i hi'
      have HQ4 := Lib.hid hq4
      clear hq4 hA g1 g2 g3
      go_upto_region 15 with (fail)
      go_region
      all_goals
        go_wp2
        go_meet
        exact ⟨q4, HQ4.out.chg0 ((Chg.refl _ _).drew), ((hcw.setCell (p := ⟨g, _, none⟩) (.inl hgf) _)).drew, fun k hk => .inl (by rw [hq5] at hk; exact hk)⟩
    | quit i hi' g1 g2 =>
      have hi9 : i < 64 := by have := hk.ws; omega
      have b1 : ((i : Int) == -2) = false := beq_eq_false_iff_ne.2 (by omega)
      have b2 : ((i : Int) == -1) = false := beq_eq_false_iff_ne.2 (by omega)
      have e : s.mk0 ⟨6, i, 0⟩ = ({ s with made := s.made + 1 } : LS).setW i (2, 0) := by
        show s.make ⟨6, i, 0⟩ = _
        unfold LS.make LS.quit
        simp
      have HE := Lib.hid e
      clear e
      obtain ⟨c0, c1, c2, c3, c4, c5, c6, c7, c8, c9, c10, c11, c12⟩ := hA.cells
      try dsimp only [LS.setW] at c0 c1 c2 c3 c4 c5 c6 c7 c8 c9 c10 c11 c12
      obtain ⟨g, o, cap, hv, hcp, y, hy, hw0, hw1⟩ := hA.worker (k := i) hi'
      have hfz := fun k => hA.frz hv k
      have hF0 := hfz (o + i * 2)
      have hF1 := hfz (o + i * 2 + 1)
      rw [hv] at c6
      have hwgl := World.block_lt_of_cell? _ _ hw0
      have HV := Lib.hid hv
      have hgf : g ∈ q.lv.foot b := by simp [LV.foot, HV.out, Value.ownBlock]
      clear hv hfz hy
      obtain ⟨q4, hq4, hq5⟩ := hA.gone HV.out i hi'
      have HQ4 := Lib.hid hq4
      clear hq4 hA g1 g2
      go_upto_region 29 with (fail)
      go_region
      all_goals
        go_wp2
        go_meet
        rw [HE.out]
        exact ⟨q4, HQ4.out.chg0 ((Chg.refl _ _).drew), ((hcw.setCell (p := ⟨g, _, none⟩) (.inl hgf) _)).drew, fun k hk => .inl (by rw [hq5] at hk; exact hk)⟩
    | put g1 g2 g3 =>
      have hjb := hk.jobs
      have hn9 : s.next < 65536 := by omega
      have hrb := hk.room
      obtain ⟨c0, c1, c2, c3, c4, c5, c6, c7, c8, c9, c10, c11, c12⟩ := hA.cells
      try dsimp only [LS.setW] at c0 c1 c2 c3 c4 c5 c6 c7 c8 c9 c10 c11 c12
      have hW0 : Chg [] w2 (w2.alloc (.cells #[.int .i64 s.next] 3)).drew := ((Chg.refl _ _).alloc _).drew
      obtain ⟨v2, w6, hap, hrow2, hch2, hat2, a2, cap2, hv2⟩ := app_int (w := (w2.alloc (.cells #[.int .i64 s.next] 3)).drew) (hA.2.1.chg0 hW0) (by show s.ch.length ≤ 100000; omega) s.next w2.heap.size (blk_drew (blk_new w2 _))
      have hchk : ∀ j ∈ s.ch ++ [s.next], j ≤ 65536 := by
        intro j hj
        simp at hj
        rcases hj with hj | rfl
        · exact hk.ch.2 j hj
        · omega
      have hN := hA.newCh hW0 q.lv.cv.ownBlock.toList (fun x hx => .inl hx) hch2 v2 (s.ch ++ [s.next]) hrow2 (hat2.imp id (fun e k hk => by rw [e] at hk; simp at hk; omega)) ⟨hk.jobs, hk.room, hk.next, hk.ws, hk.st, ⟨by simp; omega, hchk⟩, hk.ans, hk.out, hk.top, hmade⟩
      have hb6 := hch2.at (hW0.at hA.1 (by simp)) hN0.1
      have x2 := blk_cell hb6 2 rfl
      have x4 := blk_cell hb6 4 (v := q.lv.cv) rfl
      have f2 := blk_frozen hb6 2
      have f4 := blk_frozen hb6 4
      have hl6 := blk_lt hb6
      dsimp only at x2
      obtain ⟨hN1, hN2, hN3⟩ := hN
      have hS := hN1.set (s' := { s with made := s.made + 1, ch := s.ch ++ [s.next], next := s.next + 1 }) 2 (.int .i64 (s.next + 1 : Nat)) (by omega) (by omega) rfl rfl rfl rfl ⟨hk.jobs, hk.room, g2, hk.ws, hk.st, ⟨by simp; omega, hchk⟩, hk.ans, hk.out, hk.top, hmade⟩
      have hcs := hN2.setCell (p := ⟨b, 2, none⟩) (.inl (by simp [LV.foot])) (.int .i64 (s.next + 1 : Nat))
      have HS := Lib.hid hS
      have HN3 : ∀ k ∈ ({ q.lv with cv := v2 } : LV).foot b, k ∈ q.lv.foot b ∨ w.heap.size ≤ k := fun k hk => (hN3 k hk).imp id (fun e => by rw [HMB.out] at hmw; omega)
      have e : s.mk0 ⟨1, 0, s.next⟩ = { s with made := s.made + 1, ch := s.ch ++ [s.next], next := s.next + 1 } := rfl
      have HE := Lib.hid e
      clear hN1 hS hA hN2 hN3 e
      generalize hnn : List.length (_ : List Nat) + 1 = n2 at hv2
      rw [hv2] at HS hcs
      have HV := Lib.hid hv2
      simp only [hv2] at hap
      clear hv2 hb6 hch2 hW0 hrow2 hat2 g1 g2 g3 hchk
      go_upto_region 4 with (fail)
      go_region
      all_goals
        go_wp2
        go_meet
        rw [HE.out]
        refine ⟨_, HS.out, hcw.trans hcs (fun x hx => .inl hx), ?_⟩
        rw [← HV.out]
        exact HN3
    | give i hi' g1 g2 =>
      have hi9 : i < 64 := by have := hk.ws; omega
      have hjb := hk.jobs
      rcases mk0_give s i hi g1 with ⟨r1, r2, r3, r4⟩ | ⟨r1, jj, l, r2, r3, r4⟩
      · have HS4 := Lib.hid r4
        have hn9 : s.next < 65536 := by omega
        have hid0 : isIdle (({ s with made := s.made + 1, next := s.next + 1 } : LS).ws[i]'hi') = true := g2
        obtain ⟨c0, c1, c2, c3, c4, c5, c6, c7, c8, c9, c10, c11, c12⟩ := hA.cells
        try dsimp only [LS.setW] at c0 c1 c2 c3 c4 c5 c6 c7 c8 c9 c10 c11 c12
        rw [r1] at c1
        rw [r3] at m2
        have f2 := blk_frozen hA.1 2
        have hB : RefIs (w2.setCell ⟨b, 2, none⟩ (.int .i64 (s.next + 1 : Nat))) b { s with made := s.made + 1, next := s.next + 1 } q := hA.set (s' := { s with made := s.made + 1, next := s.next + 1 }) 2 _ (by omega) (by omega) rfl rfl rfl rfl ⟨hk.jobs, hk.room, r2, hk.ws, hk.st, hk.ch, hk.ans, hk.out, hk.top, hmade⟩
        have hc3 : Chg (q.lv.foot b) w (w2.setCell ⟨b, 2, none⟩ (.int .i64 (s.next + 1 : Nat))) := hcw.setCell (by simp [LV.foot]) _
        have m1' : (w2.setCell ⟨b, 2, none⟩ (.int .i64 (s.next + 1 : Nat))).cell? ⟨mb, 1, none⟩ = some (.int .i64 i) := by simp [go_sem, hbm, m1]
        have m2' : (w2.setCell ⟨b, 2, none⟩ (.int .i64 (s.next + 1 : Nat))).cell? ⟨mb, 2, none⟩ = some (.int .i64 s.next) := by simp [go_sem, hbm, m2]
        have HR1 := Lib.hid r1
        clear r1 r3 r4 g1 g2
        go_upto_region 10 with (fail)
        have hcast : (s.next : Int) + 1 = (s.next + 1 : Nat) := by omega
        rw [hcast]
        clear hcast
        generalize World.setCell w2 _ _ = w3 at *
        clear c0 c1 c2 c3 c4 c5 c6 c7 c8 c9 c10 c11 c12 m0 m1 m2 hA hb2 hmb2 f2 hcw
        have hjj : s.next ≤ 65536 := by omega
        obtain ⟨s3, q3, hi3, hid3, HS, hA, hc3, hf3⟩ : ∃ (s3 : LS) (q3 : RV) (h3 : i < s3.ws.length), isIdle s3.ws[i] = true ∧ Hid (s.mk0 ⟨2, i, s.given⟩ = s3.setW i (1, s.next)) ∧ RefIs w3 b s3 q3 ∧ Chg (q.lv.foot b) w w3 ∧ ∀ k ∈ q3.lv.foot b, k ∈ q.lv.foot b ∨ w.heap.size ≤ k := ⟨{ s with made := s.made + 1, next := s.next + 1 }, q, hi', hid0, HS4, hB, hc3, fun k hk => .inl hk⟩
        have m1 := m1'
        have m2 := m2'
        clear m1' m2' hB hid0 HS4
        generalize s.next = jj at *
        obtain ⟨c0, c1, c2, c3, c4, c5, c6, c7, c8, c9, c10, c11, c12⟩ := hA.cells
        try dsimp only [LS.setW] at c0 c1 c2 c3 c4 c5 c6 c7 c8 c9 c10 c11 c12
        obtain ⟨g, o, cap, hv, hcp, y, hy, hw0, hw1⟩ := hA.worker (k := i) hi3
        have hfz := fun k => hA.frz hv k
        have hF0 := hfz (o + i * 2)
        have hF1 := hfz (o + i * 2 + 1)
        rw [hv] at c6
        have hwgl := World.block_lt_of_cell? _ _ hw0
        have HV := Lib.hid hv
        have hgf : g ∈ q3.lv.foot b := by simp [LV.foot, HV.out, Value.ownBlock]
        clear hv hfz hy
        have hmb3 := World.block_lt_of_cell? _ _ m1
        obtain ⟨q4, hq4, hq5⟩ := hA.busy HV.out i hi3 hid3 jj hjj
        have HQ4 := Lib.hid hq4
        have HQ5 := Lib.hid hq5
        clear hq4 hq5 hA
        go_upto_region 10 with (fail)
        go_region
        all_goals
          go_wp2
          all_goals
            go_meet
            rw [HS.out]
            refine ⟨q4, HQ4.out.chg0 ((Chg.refl _ _).drew), ((hc3.setCell (p := ⟨g, _, none⟩) (hf3 g hgf) _)).drew, fun k hk => hf3 k (by rw [HQ5.out] at hk; exact hk)⟩
      · have HS4 := Lib.hid r4
        have hchk : l.length ≤ 65536 ∧ ∀ k ∈ l, k ≤ 65536 := by
          have := hk.ch
          rw [r2] at this
          exact ⟨by have := this.1; simp at this; omega, fun k hk => this.2 k (by simp [hk])⟩
        have hjj : jj ≤ 65536 := hk.ch.2 jj (by rw [r2]; simp)
        have hid0 : isIdle (({ s with made := s.made + 1, ch := l } : LS).ws[i]'hi') = true := g2
        obtain ⟨c0, c1, c2, c3, c4, c5, c6, c7, c8, c9, c10, c11, c12⟩ := hA.cells
        try dsimp only [LS.setW] at c0 c1 c2 c3 c4 c5 c6 c7 c8 c9 c10 c11 c12
        rw [r3] at m2
        have b1 : ((s.room : Int) == 0) = false := beq_eq_false_iff_ne.2 (by omega)
        have hrow : RowIs w2 3 1 q.lv.cv (l.length + 1) (iCells (jj :: l)) := by
          have := hA.2.1
          rw [show ({ s with made := s.made + 1 } : LS).ch = jj :: l from r2] at this
          exact this
        obtain ⟨cg, co, ccap, hcv, hcc, hown⟩ := hrow.ptr (by omega)
        rw [hcv] at c4 hrow
        have hcm : ccap ≤ 9223372036854775807 := by
          obtain ⟨_, ⟨x, _⟩ | ⟨g', o', cap', cur, x, _, _, hm, _⟩⟩ := hrow
          · cases x
          · unfold maxLen at hm
            simp at x; omega
        have hc0 : Chg [] w2 (w2.alloc (.cells #[] 3)) := (Chg.refl _ _).alloc _
        have hE : RowIs (w2.alloc (.cells #[] 3)) 3 1 (.slice (some ⟨w2.heap.size, 0, none⟩) 0 0) ([] : List Nat).length (iCells []) := ⟨rfl, .inr ⟨_, 0, 0, #[], rfl, blk_new w2 _, by simp, by unfold maxLen; omega, by simp, rfl⟩⟩
        have htl : RowIs (w2.alloc (.cells #[] 3)) 3 1 (.slice (if ccap = 1 then some ⟨cg, co, none⟩ else some ⟨cg, co + 1, none⟩) l.length (ccap - 1)) l.length (iCells l) := by
          have := hrow.tail.chg0 hc0
          simpa [iCells] using this
        obtain ⟨v2, w6, hap, hrow2, hch2, hat2, a2, cap2, rfl⟩ := app_list hE htl (by
          by_cases e : ccap = 1
          · exact ⟨_, _, by rw [if_pos e]⟩
          · exact ⟨_, _, by rw [if_neg e]⟩) (by simp; omega)
        have hsz : (w2.alloc (.cells #[] 3)).heap.size = w2.heap.size + 1 := World.size_alloc _ _
        simp only [List.length_nil, Nat.zero_add, List.nil_append] at hap hrow2 hat2
        have hN := hA.newCh hc0 _ (fun x hx => .inr (by simp [Value.ownBlock] at hx; omega)) hch2 _ l hrow2 (.inr (fun k hk => by
          rcases hat2 with e | e
          · rw [e] at hk; simp [Value.ownBlock] at hk; omega
          · rw [e, hsz] at hk; simp at hk; omega)) ⟨hk.jobs, hk.room, hk.next, hk.ws, hk.st, hchk, hk.ans, hk.out, hk.top, hmade⟩
        have hb6 := hch2.at (hc0.at hA.1 (by simp)) (by simp [Value.ownBlock]; omega)
        have x4 := blk_cell hb6 4 (v := q.lv.cv) rfl
        have f4 := blk_frozen hb6 4
        have hl6 := blk_lt hb6
        obtain ⟨hN1, hN2, hN3⟩ := hN
        have hmf : mb ∉ q.lv.foot b := fun hm => by have := hbf mb hm; omega
        have m1' := (hN2.cell (p := ⟨mb, 1, none⟩) hmb2 hmf).trans m1
        have m2' := (hN2.cell (p := ⟨mb, 2, none⟩) hmb2 hmf).trans m2
        have hB : RefIs (w6.setCell ⟨b, 4, none⟩ (.slice a2 l.length cap2)) b { s with made := s.made + 1, ch := l } { q with lv := { q.lv with cv := .slice a2 l.length cap2 } } := hN1
        have hc3 : Chg (q.lv.foot b) w (w6.setCell ⟨b, 4, none⟩ (.slice a2 l.length cap2)) := hcw.trans hN2 (fun x hx => .inl hx)
        have hf3 : ∀ k ∈ ({ q.lv with cv := .slice a2 l.length cap2 } : LV).foot b, k ∈ q.lv.foot b ∨ w.heap.size ≤ k := fun k hk => (hN3 k hk).imp id (fun e => by rw [HMB.out] at hmw; omega)
        have HCV := Lib.hid hcv
        obtain ⟨w3, hw3⟩ : ∃ w3, w3 = w6.setCell ⟨b, 4, none⟩ (.slice a2 l.length cap2) := ⟨_, rfl⟩
        rw [← hw3] at hB hc3 m1' m2'
        have HW3 := Lib.hid hw3
        clear hw3
        clear r2 r3 r4 g1 g2 hcv hN1 hN2 hN3 hA hrow htl hE hch2 hat2 hrow2 hown hchk
        go_upto_region 10 with (fail)
        rw [← HW3.out]
        clear c0 c1 c2 c3 c4 c5 c6 c7 c8 c9 c10 c11 c12 m0 m1 m2 hb2 hmb2 hcw x4 f4 hl6 hb6 hc0
        obtain ⟨s3, q3, hi3, hid3, HS, hA, hc3, hf3⟩ : ∃ (s3 : LS) (q3 : RV) (h3 : i < s3.ws.length), isIdle s3.ws[i] = true ∧ Hid (s.mk0 ⟨2, i, s.given⟩ = s3.setW i (1, jj)) ∧ RefIs w3 b s3 q3 ∧ Chg (q.lv.foot b) w w3 ∧ ∀ k ∈ q3.lv.foot b, k ∈ q.lv.foot b ∨ w.heap.size ≤ k := ⟨{ s with made := s.made + 1, ch := l }, { q with lv := { q.lv with cv := .slice a2 l.length cap2 } }, hi', hid0, HS4, hB, hc3, hf3⟩
        have m1 := m1'
        have m2 := m2'
        clear m1' m2' hB hid0 HS4
        obtain ⟨c0, c1, c2, c3, c4, c5, c6, c7, c8, c9, c10, c11, c12⟩ := hA.cells
        try dsimp only [LS.setW] at c0 c1 c2 c3 c4 c5 c6 c7 c8 c9 c10 c11 c12
        obtain ⟨g, o, cap, hv, hcp, y, hy, hw0, hw1⟩ := hA.worker (k := i) hi3
        have hfz := fun k => hA.frz hv k
        have hF0 := hfz (o + i * 2)
        have hF1 := hfz (o + i * 2 + 1)
        rw [hv] at c6
        have hwgl := World.block_lt_of_cell? _ _ hw0
        have HV := Lib.hid hv
        have hgf : g ∈ q3.lv.foot b := by simp [LV.foot, HV.out, Value.ownBlock]
        clear hv hfz hy
        have hmb3 := World.block_lt_of_cell? _ _ m1
        obtain ⟨q4, hq4, hq5⟩ := hA.busy HV.out i hi3 hid3 jj hjj
        have HQ4 := Lib.hid hq4
        have HQ5 := Lib.hid hq5
        clear hq4 hq5 hA
        go_upto_region 10 with (fail)
        go_region
        all_goals
          go_wp2
          all_goals
            go_meet
            rw [HS.out]
            refine ⟨q4, HQ4.out.chg0 ((Chg.refl _ _).drew), ((hc3.setCell (p := ⟨g, _, none⟩) (hf3 g hgf) _)).drew, fun k hk => hf3 k (by rw [HQ5.out] at hk; exact hk)⟩
    | ans i hi' g1 g2 =>
      have hi9 : i < 64 := by have := hk.ws; omega
      have hla := hi.late g1
      have hjb := hk.jobs
      have hjst := (hk.st _ (List.getElem_mem hi')).2
      obtain ⟨c0, c1, c2, c3, c4, c5, c6, c7, c8, c9, c10, c11, c12⟩ := hA.cells
      try dsimp only [LS.setW] at c0 c1 c2 c3 c4 c5 c6 c7 c8 c9 c10 c11 c12
      obtain ⟨g, o, cap, hv, hcp, y, hy, hw0, hw1⟩ := hA.worker (k := i) hi'
      have hfz := fun k => hA.frz hv k
      have hF0 := hfz (o + i * 2)
      have hF1 := hfz (o + i * 2 + 1)
      rw [hv] at c6
      have hwgl := World.block_lt_of_cell? _ _ hw0
      have HV := Lib.hid hv
      have hgf : g ∈ q.lv.foot b := by simp [LV.foot, HV.out, Value.ownBlock]
      clear hv hfz hy
      obtain ⟨q4, hq4, hq5⟩ := hA.idle HV.out i hi' g2
      have e : s.mk0 ⟨5, i, s.ws[i].2⟩ = ({ ({ s with made := s.made + 1 } : LS).setW i (0, 0) with ans := s.ans ++ [s.ws[i].2] } : LS).looked := by
        show s.make ⟨5, i, s.ws[i].2⟩ = _
        unfold LS.make
        simp
      have HE := Lib.hid e
      clear e
      have HID := Lib.hid g1
      have hgm : mb ≠ g := by have := hbf g hgf; omega
      have m2' : ((w2.setCell ⟨g, o + i * 2, none⟩ (.int .i64 (-1))).drew).cell? ⟨mb, 2, none⟩ = some (.int .i64 s.ws[i].2) := by simp [go_sem, hgm, m2]
      have HQ4 := Lib.hid hq4
      have HQ5 := Lib.hid hq5
      clear hq4 hq5 hA g1 g2
      generalize s.ws[i].2 = jj at *
      go_upto_region 17 with (fail)
      go_cut [] from 88 to 97 (fun wx => ∃ q4 : RV, RefIs wx b (({ s with made := s.made + 1 } : LS).setW i (0, 0)) q4 ∧ (∀ k ∈ q4.lv.foot b, k ∈ q.lv.foot b) ∧ Chg (q.lv.foot b) w wx ∧ wx.cell? ⟨mb, 2, none⟩ = some (.int .i64 jj))
      case first =>
        go_region
        all_goals
          go_wp2
          go_meet
          exact ⟨q4, HQ4.out.chg0 ((Chg.refl _ _).drew), fun k hk => by rw [HQ5.out] at hk; exact hk, (hcw.setCell (p := ⟨g, _, none⟩) (.inl hgf) _).drew, m2'⟩
      case rest =>
      clear hcw m0 m1 m2 m2' HQ4 HQ5 hb2 hmb2 hF0 hF1 hw0 hw1 hwgl HV hgf c0 c1 c2 c3 c4 c5 c6 c7 c8 c9 c10 c11 c12 hmw
      obtain ⟨q4, hA, hq5, hcw, m2⟩ := hcut
      have hmw : mb ≤ wc.heap.size := by rw [HMB.out]; exact hcw.size
      have hb2 := blk_lt hA.1
      have hmb2 := World.block_lt_of_cell? _ _ m2
      have hal : s.ans.length ≤ 65536 := hk.ans.1
      obtain ⟨c0, c1, c2, c3, c4, c5, c6, c7, c8, c9, c10, c11, c12⟩ := hA.cells
      try dsimp only [LS.setW] at c0 c1 c2 c3 c4 c5 c6 c7 c8 c9 c10 c11 c12
      have hW0 : Chg [] wc (wc.alloc (.cells #[.int .i64 jj] 3)).drew := ((Chg.refl _ _).alloc _).drew
      obtain ⟨v2, w6, hap, hrow2, hch2, hat2, a2, cap2, hv2⟩ := app_int (w := (wc.alloc (.cells #[.int .i64 jj] 3)).drew) (hA.2.2.2.1.chg0 hW0) (by show s.ans.length ≤ 100000; omega) jj wc.heap.size (blk_drew (blk_new wc _))
      have hkA := hA.2.2.2.2.2.1
      have hok2 : ({ ({ s with made := s.made + 1 } : LS).setW i (0, 0) with ans := s.ans ++ [jj] } : LS).ok := ⟨hk.jobs, hk.room, hk.next, hkA.ws, hkA.st, hk.ch, ⟨by simp; omega, by
        intro k hk'
        simp at hk'
        rcases hk' with hk' | rfl
        · exact hk.ans.2 k hk'
        · exact hjst⟩, hk.out, hk.top, hmade⟩
      have hN := hA.newAns hW0 hch2 v2 (s.ans ++ [jj]) hrow2 hat2 hok2
      have hN0' := foot_ne hA.2.2.2.2.1
      have hb6 := hch2.at (hW0.at hA.1 (by simp)) hN0'.2.2.1
      have x8 := blk_cell hb6 8 (v := q4.lv.av) rfl
      have f8 := blk_frozen hb6 8
      have hl6 := blk_lt hb6
      obtain ⟨hN1, hN2, hN3⟩ := hN
      have hN2' : Chg (q.lv.foot b) w (w6.setCell ⟨b, 8, none⟩ v2) := hcw.trans hN2 (fun x hx => .inl (hq5 x hx))
      have hN3' : ∀ k ∈ ({ q4.lv with av := v2 } : LV).foot b, k ∈ q.lv.foot b ∨ w.heap.size ≤ k := fun k hk => (hN3 k hk).imp (fun h => hq5 _ h) (fun e => by rw [HMB.out] at hmw; omega)
      have hex : ∃ q' : RV, RefIs (w6.setCell ⟨b, 8, none⟩ v2) b { ({ s with made := s.made + 1 } : LS).setW i (0, 0) with ans := s.ans ++ [jj] } q' ∧ Chg (q.lv.foot b) w (w6.setCell ⟨b, 8, none⟩ v2) ∧ (∀ k ∈ q'.lv.foot b, k ∈ q.lv.foot b ∨ w.heap.size ≤ k) ∧ ∃ a c, q'.lv.av = .slice a (s.ans.length + 1) c := ⟨_, hN1, hN2', hN3', a2, cap2, hv2⟩
      have HEX := Lib.hid hex
      clear hex hN1 hN2 hN3 hN2' hN3' hA
      generalize hnn : List.length (_ : List Nat) + 1 = n2 at hv2
      rw [hv2] at HEX
      simp only [hv2] at hap
      clear hv2 hb6 hch2 hW0 hrow2 hat2 hkA
      go_upto_region 18 with (fail)
      go_cut [] from 88 to 108 (fun wx => ∃ q' : RV, RefIs wx b { ({ s with made := s.made + 1 } : LS).setW i (0, 0) with ans := s.ans ++ [jj] } q' ∧ Chg (q.lv.foot b) w wx ∧ (∀ k ∈ q'.lv.foot b, k ∈ q.lv.foot b ∨ w.heap.size ≤ k) ∧ ∃ a c, q'.lv.av = .slice a (s.ans.length + 1) c)
      case first =>
        go_region
        all_goals
          go_wp2
          go_meet
          exact HEX.out
      case rest =>
      clear HEX hap x8 f8 hl6 c0 c1 c2 c3 c4 c5 c6 c7 c8 c9 c10 c11 c12 hcw hmw hb2 hmb2 m2 hN0'
      obtain ⟨q7, hA, hcw, hf7, a7, cap7, hv7⟩ := hcut
      obtain ⟨c0, c1, c2, c3, c4, c5, c6, c7, c8, c9, c10, c11, c12⟩ := hA.cells
      try dsimp only [LS.setW] at c0 c1 c2 c3 c4 c5 c6 c7 c8 c9 c10 c11 c12
      rw [hv7] at c8
      clear hv7
      have hb2 := blk_lt hA.1
      have f7 := blk_frozen hA.1 7
      have f9 := blk_frozen hA.1 9
      have HA := Lib.hid hA
      clear hA
      go_upto_region 19 with (fail)
      by_cases hl : s.ans.length + 1 = s.jobs
      · have d1 : (((s.ans.length + 1 : Nat) : Int) == s.jobs) = true := by rw [hl]; simp
        have d2 : ((s.ans.length : Int) + 1 == s.jobs) = true := by have := d1; simpa using this
        have HL := Lib.hid hl
        clear hl
        go_quiet (fail)
        go_wp2
        go_meet
        have hkA := HA.out.2.2.2.2.2.1
        rw [HE.out]
        have e : ({ ({ s with made := s.made + 1 } : LS).setW i (0, 0) with ans := s.ans ++ [jj] } : LS).looked = { ({ s with made := s.made + 1 } : LS).setW i (0, 0) with ans := s.ans ++ [jj], out := 1 } := by
          unfold LS.looked
          rw [if_pos ⟨HID.out, by simp [LS.setW]; exact HL.out⟩]
        rw [e]
        refine ⟨q7, ?_, ((hcw.drewN _).setCell (p := ⟨b, 7, none⟩) (.inl (by simp [LV.foot])) _).setCell (p := ⟨b, 9, none⟩) (.inl (by simp [LV.foot])) _, hf7⟩
        exact (HA.out.chg0 ((Chg.refl _ _).drewN _)).upd (s' := { ({ s with made := s.made + 1 } : LS).setW i (0, 0) with ans := s.ans ++ [jj], out := 1 }) (((Chg.refl [b] _).setCell (p := ⟨b, 7, none⟩) (by simp) _).setCell (p := ⟨b, 9, none⟩) (by simp) _) (blk_set (blk_set (blk_drewN HA.out.1 _) 7 _) 9 _) rfl rfl rfl ⟨hkA.jobs, hkA.room, hkA.next, hkA.ws, hkA.st, hkA.ch, hkA.ans, by simp, hkA.top, hkA.made⟩
      · have d1 : (((s.ans.length + 1 : Nat) : Int) == s.jobs) = false := beq_eq_false_iff_ne.2 (by omega)
        have d2 : ((s.ans.length : Int) + 1 == s.jobs) = false := beq_eq_false_iff_ne.2 (by omega)
        go_quiet (fail)
        go_wp2
        go_meet
        rw [HE.out]
        have e : ({ ({ s with made := s.made + 1 } : LS).setW i (0, 0) with ans := s.ans ++ [jj] } : LS).looked = { ({ s with made := s.made + 1 } : LS).setW i (0, 0) with ans := s.ans ++ [jj] } := by
          unfold LS.looked
          rw [if_neg (by rintro ⟨_, h⟩; simp [LS.setW] at h; exact hl h)]
        rw [e]
        exact ⟨q7, HA.out.chg0 ((Chg.refl _ _).drewN _), hcw.drewN _, hf7⟩
  case rest =>
  obtain ⟨q', hR, hch, hf⟩ := hcut
  generalize s.mk0 m = s1 at *
  clear hA m0 m1 m2 hcw hmw
  have hgq := fun n => rgauge_calls (wc.drewN n) b s1 q' (hR.chg0 ((Chg.refl _ _).drewN n))
  have f12 := blk_frozen hR.1 12
  obtain ⟨c0, c1, c2, c3, c4, c5, c6, c7, c8, c9, c10, c11, c12⟩ := hR.cells
  try dsimp only [LS.setW] at c0 c1 c2 c3 c4 c5 c6 c7 c8 c9 c10 c11 c12
  have hbl := World.block_lt_of_cell? _ _ c0
  have HR := Lib.hid hR
  clear hR
  go_upto_region 30 with (fail)
  by_cases hgt : s1.top < s1.gauge
  · have d : decide (s1.top < s1.gauge) = true := by simp [hgt]
    go_quiet ((go_at_call 47; exact Calls.quiet_of_same (hgq _)))
    go_wp2_with (go_at_call 47; refine (hgq _).mono ?_; rintro e w5 ⟨rfl, hw5⟩; subst hw5)
    go_end0
    have hk1 := HR.out.2.2.2.2.2.1
    refine ⟨rfl, q', ?_, (hch.drewN _).setCell (hf b (by simp [LV.foot])) _, hf⟩
    rw [HM1.out]
    have e : max s1.top s1.gauge = s1.gauge := Nat.max_eq_right (by omega)
    rw [e]
    exact (HR.out.chg0 ((Chg.refl _ _).drewN _)).set (s' := { s1 with top := s1.gauge }) 12 _ (by omega) (by omega) rfl rfl rfl rfl ⟨hk1.jobs, hk1.room, hk1.next, hk1.ws, hk1.st, hk1.ch, hk1.ans, hk1.out, hm3, hk1.made⟩
  · have d : decide (s1.top < s1.gauge) = false := by simp; omega
    go_quiet ((go_at_call 47; exact Calls.quiet_of_same (hgq _)))
    go_wp2
    go_end0
    refine ⟨rfl, q', ?_, hch.drewN _, hf⟩
    rw [HM1.out]
    have e : max s1.top s1.gauge = s1.top := Nat.max_eq_left (by omega)
    rw [e]
    exact HR.out.chg0 ((Chg.refl _ _).drewN _)
theorem rmove_bad (w : World) (b : Nat) (s : LS) (q : RV) (k : Int) (h : RefIs w b s q) (hg : s.good) (hz : ∀ x ∈ s.ws, x.1 = 0 → x.2 = 0) (hk : k < 0 ∨ (s.moves.length : Int) ≤ k) :
    Calls Try.prog 19 #[.pointer (some ⟨b, 0, none⟩), .int .i64 k] w fun e w' => e = .returned (.int .i64 130) ∧ Chg [] w w' := by
  have HK := Lib.hid hk
  have hl : s.moves.length ≤ 260 := by have := moves_length s; have := h.2.2.2.2.2.1.ws; omega
  clear hk
  by_cases h1 : k < 0
  · go_enter Try.func19, Try.ntmps19
    go_wp2_with (go_at_call 25; refine (rmoves_calls w b s q h hg.1 hz).mono ?_; rintro e w1 ⟨v, rfl, hr, hc, _⟩)
    go_ret
    exact ⟨rfl, hc⟩
  · have h2 : (s.moves.length : Int) ≤ k := HK.out.resolve_left h1
    go_enter Try.func19, Try.ntmps19
    go_wp2_with (go_at_call 25; refine (rmoves_calls w b s q h hg.1 hz).mono ?_; rintro e w1 ⟨v, rfl, hr, hc, _⟩; obtain ⟨a, cap, rfl, _⟩ := hr.slice)
    go_ret
    exact ⟨rfl, hc⟩
theorem rmove_ok (w : World) (b : Nat) (s : LS) (q : RV) (k : Nat) (h : RefIs w b s q) (hg : s.good) (hz : ∀ x ∈ s.ws, x.1 = 0 → x.2 = 0) (hk : k < s.moves.length) :
    Calls Try.prog 19 #[.pointer (some ⟨b, 0, none⟩), .int .i64 k] w fun e w' => e = .returned (.int .i64 0) ∧ RMakeP w b q (s.make s.moves[k]) w' := by
  have hl : s.moves.length ≤ 260 := by have := moves_length s; have := h.2.2.2.2.2.1.ws; omega
  have hC := can_of_mem s _ (List.getElem_mem hk)
  have HC := Lib.hid hC
  clear hC
  obtain ⟨x1, x2, x3⟩ := mCells_at s.moves k hk
  generalize hm : s.moves[k] = m at *
  have HM := Lib.hid hm
  clear hm
  go_enter Try.func19, Try.ntmps19
  go_upto_region 4 with (go_at_call 25; refine (rmoves_calls w b s q h hg.1 hz).mono ?_; rintro e w1 ⟨v, rfl, hr, hc, _⟩; obtain ⟨g, o, cap, rfl, hcap, _⟩ := hr.ptr (by omega))
  have y1 := hr.cell x1
  have y2 := hr.cell x2
  have y3 := hr.cell x3
  rw [← Nat.add_assoc] at y2 y3
  have hgl := World.block_lt_of_cell? _ _ y1
  have hA := h.chg0 hc
  go_wp2_with (go_at_call 45; refine (rmake_calls w1 b s q m hA hg HC.out).mono ?_; rintro e w2 ⟨rfl, hM⟩)
  go_ret
  refine ⟨rfl, ?_⟩
  exact RMakeP.next (hc.of_nil) (fun k hk => .inl hk) hM
end Go.Proofs.Ytfmdghijbkddpaa

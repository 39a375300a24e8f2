/- LoomApart: its walk. -/
import Derived.Test.YtfmdghijbkddpaaLmRh
import Derived.Test.YtfmdghijbkddpaaLmRi
import Derived.Test.YtfmdghijbkddpaaBoolsI
namespace Go.Proofs.Ytfmdghijbkddpaa
open Go.RowKit
set_option linter.unusedVariables false
set_option linter.unusedSimpArgs false

theorem pr_init {w w1 : World} {a j r b rb : Nat} {q : LV} {rq : RV} (h1 : 1 ≤ a) (h2 : a ≤ 64) (h3 : j ≤ 65536) (h4 : r ≤ 65536) (hl : LmIs w1 b (LS.init a j r) q) (hr : RefIs w1 rb (LS.init a j r) rq) (nl : ∀ k ∈ q.foot b, w.heap.size ≤ k) (nr : ∀ k ∈ rq.lv.foot rb, w.heap.size ≤ k) (ap : ∀ k ∈ q.foot b, k ∉ rq.lv.foot rb) : PR w w1 b q rb rq (LS.init a j r) :=
  ⟨hl, hr, init_good a j r h1 h2 h3 h4, (keen_init a j r).2, nl, nr, ap⟩

set_option maxRecDepth 100000 in
set_option maxHeartbeats 8000000 in
theorem apart_main (w : World) (a j r : Nat) (h1 : 1 ≤ a) (h2 : a ≤ 64) (h3 : j ≤ 400) (h4 : r ≤ 65536) (v : Value) (ps : List Int) (hv : NsIs .i64 w v ps) (hpl : ps.length ≤ 400) (u : Value) (ts : List Bool) (hu : BsIs w u ts) :
    Calls Try.prog 5 #[.int .i64 a, .int .i64 j, .int .i64 r, v, u] w (Res w [] (.bool true)) := by
  have htw := two_yes a j r w h1 h2 (by omega) h4
  have htw2 : ∀ w, Calls Try.prog 18 #[.int .i64 a, .int .i64 j, .int .i64 1] w _ := fun w => two_yes a j 1 w h1 h2 (by omega) (by omega)
  have hp1 : ∀ w1 b q rb rq, LmIs w1 b (LS.init a j r) q → RefIs w1 rb (LS.init a j r) rq → (∀ k ∈ q.foot b, w.heap.size ≤ k) → (∀ k ∈ rq.lv.foot rb, w.heap.size ≤ k) → (∀ k ∈ q.foot b, k ∉ rq.lv.foot rb) → PR w w1 b q rb rq (LS.init a j r) := fun w1 b q rb rq => pr_init h1 h2 (by omega) h4
  have hp2 : ∀ w1 b q rb rq, LmIs w1 b (LS.init a j 1) q → RefIs w1 rb (LS.init a j 1) rq → (∀ k ∈ q.foot b, w.heap.size ≤ k) → (∀ k ∈ rq.lv.foot rb, w.heap.size ≤ k) → (∀ k ∈ q.foot b, k ∉ rq.lv.foot rb) → PR w w1 b q rb rq (LS.init a j 1) := fun w1 b q rb rq => pr_init h1 h2 (by omega) (by omega)
  generalize LS.init a j r = s10 at *
  generalize LS.init a j 1 = s20 at *
  obtain ⟨hW, pa, pcap, rfl, hpr⟩ := hv
  obtain ⟨ta, tcap, rfl, htr⟩ := hu
  have d1 : decide ((400 : Int) < ps.length) = false := by simp; omega
  have d2 : decide ((400 : Int) < j) = false := by simp; omega
  go_enter Try.func5, Try.ntmps5
  go_upto_region 4 with (go_at_call 18; refine htw.mono ?_; rintro e w1 ⟨ab, q1, ar, rq1, rfl, k1, k2, k3, k4, k5, k6⟩)
  go_upto_region 5 with (go_at_call 18; refine (htw2 w1).mono ?_; rintro e w2 ⟨bb, q2, br, rq2, rfl, l1, l2, l3, l4, l5, l6⟩)
  have P1 := hp1 _ _ _ _ _ k1 k2 k4 k5 k6
  have hs1 := k3.size
  have P2 := hp2 _ _ _ _ _ l1 l2 (fun k hk => by have := l4 k hk; omega) (fun k hk => by have := l5 k hk; omega) l6
  have hD : ∀ k ∈ feet ab q1 ar rq1, k ∉ feet bb q2 br rq2 := fun k hk hx => by
    have := P1.lt k hk
    simp only [feet, List.mem_append] at hx
    rcases hx with hx | hx
    · have := l4 k hx; omega
    · have := l5 k hx; omega
  replace P1 := P1.chg0 l3
  have hc0 := k3.nil_trans l3
  clear k1 k2 k3 k4 k5 k6 l1 l2 l3 l4 l5 l6 hp1 hp2 htw htw2 hs1
  go_upto_region 9 with (fail)
  go_wp2
  go_loopg [17] ps.length (fun g ii wx => ∃ (i : Nat) (s1 : LS) (q1 : LV) (rq1 : RV) (s2 : LS) (q2 : LV) (rq2 : RV), i ≤ ps.length ∧ g = ps.length - i ∧ ii = .int .i64 i ∧ PR w wx ab q1 ar rq1 s1 ∧ PR w wx bb q2 br rq2 s2 ∧ (∀ k ∈ feet ab q1 ar rq1, k ∉ feet bb q2 br rq2) ∧ Chg [] w wx)
  case atStart => exact ⟨0, s10, q1, rq1, s20, q2, rq2, by omega, by omega, rfl, P1, P2, hD, hc0⟩
  case round =>
    clear P1 P2 hD hc0
    obtain ⟨i, s1, q1, rq1, s2, q2, rq2, hi, hgi, rfl, P1, P2, hD, hcw⟩ := hrel
    by_cases hlt : i < ps.length
    · have hlt' : i < ps.length := hlt
      obtain ⟨pb, po, rfl, hpb, hpc⟩ : ∃ pb po, pa = some ⟨pb, po, none⟩ ∧ pb < w.heap.size ∧ ∀ i (hi : i < ps.length), w.cell? ⟨pb, po + i, none⟩ = some (.int .i64 ps[i]) := by
        rcases hpr with e | e
        · rw [e] at hlt'; simp at hlt'
        · exact e
      have hpt : wr.cell? ⟨pb, po + i, none⟩ = some (.int .i64 ps[i]) := by
        rw [hcw.cell (p := ⟨pb, po + i, none⟩) hpb (by simp)]
        exact hpc i hlt'
      have hpw9 := wf_i64 (hW ps[i] (List.getElem_mem hlt'))
      have hpl5 := World.block_lt_of_cell? _ _ hpt
      clear hpc
      generalize ps[i] = pk at *
      by_cases ht : i < ts.length
      · have ht' : i < ts.length := ht
        have e1 : decide (i < ts.length) = true := by simp [ht]
        obtain ⟨tb, tof, rfl, htb, htc⟩ : ∃ tb tof, ta = some ⟨tb, tof, none⟩ ∧ tb < w.heap.size ∧ ∀ i (hi : i < ts.length), w.cell? ⟨tb, tof + i, none⟩ = some (.bool ts[i]) := by
          rcases htr with e | e
          · rw [e] at ht'; simp at ht'
          · exact e
        have htt : wr.cell? ⟨tb, tof + i, none⟩ = some (.bool ts[i]) := by
          rw [hcw.cell (p := ⟨tb, tof + i, none⟩) htb (by simp)]
          exact htc i ht'
        have htl5 := World.block_lt_of_cell? _ _ htt
        clear htc
        generalize ts[i] = tv at *
        cases tv with
        | true =>
          have hPx := (P2).chg0 ((Chg.refl [] wr).drew)
          have hcx : Chg [] w wr.drew := hcw.drew
          have hpw : wr.drew.cell? ⟨pb, po + i, none⟩ = some (.int .i64 pk) := hpt
          have hszx := hcx.size
          have hpF : ∀ k ∈ feet bb q2 br rq2, k ≠ pb := fun k hk e => by have := hPx.new k hk; omega
          have hpb2 : pb < wr.drew.heap.size := by omega
          have hkeep := mvS_keep s2 pk hPx.good hPx.ends
          have CA : Calls Try.prog 14 #[.pointer (some ⟨bb, 0, none⟩), .int .i64 pk] wr.drew fun e w' => e = .returned (.int .i64 (s2.mvE pk)) ∧ PH w wr.drew w' bb q2 br rq2 s2 (s2.mvS pk) ∧ w'.cell? ⟨pb, po + i, none⟩ = some (.int .i64 pk) :=
            (mv_calls _ _ _ _ pk hPx.l hPx.good).mono fun e w' ⟨h1, h2⟩ => ⟨h1, ⟨hPx, hszx, h2⟩, by
              obtain ⟨q', a1, a2, a3⟩ := h2
              rw [a2.cell (p := ⟨pb, po + i, none⟩) hpb2 (fun hm => hpF pb (by simp [feet, hm]) rfl)]
              exact hpw⟩
          have CB : ∀ W, PH w wr.drew W bb q2 br rq2 s2 (s2.mvS pk) → Calls Try.prog 19 #[.pointer (some ⟨br, 0, none⟩), .int .i64 pk] W fun e w' => e = .returned (.int .i64 (s2.mvE pk)) ∧ (∃ q' rq', PR w w' bb q' br rq' (s2.mvS pk) ∧ Chg (feet bb q2 br rq2) wr.drew w' ∧ ∀ k ∈ feet bb q' br rq', k ∈ feet bb q2 br rq2 ∨ wr.drew.heap.size ≤ k) ∧ w'.cell? ⟨pb, po + i, none⟩ = some (.int .i64 pk) := fun W hP =>
            (rmv_calls _ _ _ _ pk hP.ref hPx.good hPx.ends).mono fun e w' ⟨h1, h2⟩ => by
              obtain ⟨q', rq', d1, d2, d3⟩ := hP.done hkeep.1 hkeep.2 h2
              refine ⟨h1, ⟨q', rq', d1, d2, d3⟩, ?_⟩
              rw [d2.cell (p := ⟨pb, po + i, none⟩) hpb2 (fun hm => hpF pb hm rfl)]
              exact hpw
          generalize s2.mvE pk = me at *
          have HP1 := Lib.hid P1
          have HP2 := Lib.hid P2
          have HD := Lib.hid hD
          clear P1 P2 hD
          go_upto_region 13 with (fail)
          go_region_held3 (fun W => W.cell? ⟨pb, po + i, none⟩ = some (.int .i64 pk)) (assumption)
            (first
              | (go_at_call 14; refine CA.mono ?_; rintro e w' ⟨rfl, hM, hk⟩)
              | (go_at_call 19; refine (CB _ (by assumption)).mono ?_; rintro e w' ⟨rfl, hD, hk⟩))
          all_goals
            obtain ⟨q', rq', d1, d2, d3⟩ := hD
            have D1 := Lib.hid d1
            have D3 := Lib.hid d3
            clear d1 d3
            go_wp2
            go_roundg (ps.length - (i + 1))
            case measure => omega
            case rel => exact ⟨i + 1, s1, q1, rq1, _, q', rq', by omega, rfl, by go_num, (HP1.out.chg0 ((Chg.refl [] wr).drew)).chg d2 (fun k hk hx => HD.out k hk hx), D1.out, (fun k hk hx => by rcases D3.out k hx with e | e; exact HD.out k hk e; have := HP1.out.lt k hk; have e : wr.heap.size ≤ k := e; omega), hcx.trans d2 (fun x hx => .inr (hPx.new x hx))⟩
        | false =>
          have hPx := (P1).chg0 ((Chg.refl [] wr).drew)
          have hcx : Chg [] w wr.drew := hcw.drew
          have hpw : wr.drew.cell? ⟨pb, po + i, none⟩ = some (.int .i64 pk) := hpt
          have hszx := hcx.size
          have hpF : ∀ k ∈ feet ab q1 ar rq1, k ≠ pb := fun k hk e => by have := hPx.new k hk; omega
          have hpb2 : pb < wr.drew.heap.size := by omega
          have hkeep := mvS_keep s1 pk hPx.good hPx.ends
          have CA : Calls Try.prog 14 #[.pointer (some ⟨ab, 0, none⟩), .int .i64 pk] wr.drew fun e w' => e = .returned (.int .i64 (s1.mvE pk)) ∧ PH w wr.drew w' ab q1 ar rq1 s1 (s1.mvS pk) ∧ w'.cell? ⟨pb, po + i, none⟩ = some (.int .i64 pk) :=
            (mv_calls _ _ _ _ pk hPx.l hPx.good).mono fun e w' ⟨h1, h2⟩ => ⟨h1, ⟨hPx, hszx, h2⟩, by
              obtain ⟨q', a1, a2, a3⟩ := h2
              rw [a2.cell (p := ⟨pb, po + i, none⟩) hpb2 (fun hm => hpF pb (by simp [feet, hm]) rfl)]
              exact hpw⟩
          have CB : ∀ W, PH w wr.drew W ab q1 ar rq1 s1 (s1.mvS pk) → Calls Try.prog 19 #[.pointer (some ⟨ar, 0, none⟩), .int .i64 pk] W fun e w' => e = .returned (.int .i64 (s1.mvE pk)) ∧ (∃ q' rq', PR w w' ab q' ar rq' (s1.mvS pk) ∧ Chg (feet ab q1 ar rq1) wr.drew w' ∧ ∀ k ∈ feet ab q' ar rq', k ∈ feet ab q1 ar rq1 ∨ wr.drew.heap.size ≤ k) ∧ w'.cell? ⟨pb, po + i, none⟩ = some (.int .i64 pk) := fun W hP =>
            (rmv_calls _ _ _ _ pk hP.ref hPx.good hPx.ends).mono fun e w' ⟨h1, h2⟩ => by
              obtain ⟨q', rq', d1, d2, d3⟩ := hP.done hkeep.1 hkeep.2 h2
              refine ⟨h1, ⟨q', rq', d1, d2, d3⟩, ?_⟩
              rw [d2.cell (p := ⟨pb, po + i, none⟩) hpb2 (fun hm => hpF pb hm rfl)]
              exact hpw
          generalize s1.mvE pk = me at *
          have HP1 := Lib.hid P1
          have HP2 := Lib.hid P2
          have HD := Lib.hid hD
          clear P1 P2 hD
          go_upto_region 15 with (fail)
          go_region_held3 (fun W => W.cell? ⟨pb, po + i, none⟩ = some (.int .i64 pk)) (assumption)
            (first
              | (go_at_call 14; refine CA.mono ?_; rintro e w' ⟨rfl, hM, hk⟩)
              | (go_at_call 19; refine (CB _ (by assumption)).mono ?_; rintro e w' ⟨rfl, hD, hk⟩))
          all_goals
            obtain ⟨q', rq', d1, d2, d3⟩ := hD
            have D1 := Lib.hid d1
            have D3 := Lib.hid d3
            clear d1 d3
            go_wp2
            go_roundg (ps.length - (i + 1))
            case measure => omega
            case rel => exact ⟨i + 1, _, q', rq', s2, q2, rq2, by omega, rfl, by go_num, D1.out, (HP2.out.chg0 ((Chg.refl [] wr).drew)).chg d2 (fun k hk hx => HD.out k hx hk), (fun k hk hx => by rcases D3.out k hk with e | e; exact HD.out k e hx; have := HP2.out.lt k hx; have e : wr.heap.size ≤ k := e; omega), hcx.trans d2 (fun x hx => .inr (hPx.new x hx))⟩
      · have e1 : decide (i < ts.length) = false := by simp [ht]
        have hPx := (P1).chg0 ((Chg.refl [] wr).drew)
        have hcx : Chg [] w wr.drew := hcw.drew
        have hpw : wr.drew.cell? ⟨pb, po + i, none⟩ = some (.int .i64 pk) := hpt
        have hszx := hcx.size
        have hpF : ∀ k ∈ feet ab q1 ar rq1, k ≠ pb := fun k hk e => by have := hPx.new k hk; omega
        have hpb2 : pb < wr.drew.heap.size := by omega
        have hkeep := mvS_keep s1 pk hPx.good hPx.ends
        have CA : Calls Try.prog 14 #[.pointer (some ⟨ab, 0, none⟩), .int .i64 pk] wr.drew fun e w' => e = .returned (.int .i64 (s1.mvE pk)) ∧ PH w wr.drew w' ab q1 ar rq1 s1 (s1.mvS pk) ∧ w'.cell? ⟨pb, po + i, none⟩ = some (.int .i64 pk) :=
          (mv_calls _ _ _ _ pk hPx.l hPx.good).mono fun e w' ⟨h1, h2⟩ => ⟨h1, ⟨hPx, hszx, h2⟩, by
            obtain ⟨q', a1, a2, a3⟩ := h2
            rw [a2.cell (p := ⟨pb, po + i, none⟩) hpb2 (fun hm => hpF pb (by simp [feet, hm]) rfl)]
            exact hpw⟩
        have CB : ∀ W, PH w wr.drew W ab q1 ar rq1 s1 (s1.mvS pk) → Calls Try.prog 19 #[.pointer (some ⟨ar, 0, none⟩), .int .i64 pk] W fun e w' => e = .returned (.int .i64 (s1.mvE pk)) ∧ (∃ q' rq', PR w w' ab q' ar rq' (s1.mvS pk) ∧ Chg (feet ab q1 ar rq1) wr.drew w' ∧ ∀ k ∈ feet ab q' ar rq', k ∈ feet ab q1 ar rq1 ∨ wr.drew.heap.size ≤ k) ∧ w'.cell? ⟨pb, po + i, none⟩ = some (.int .i64 pk) := fun W hP =>
          (rmv_calls _ _ _ _ pk hP.ref hPx.good hPx.ends).mono fun e w' ⟨h1, h2⟩ => by
            obtain ⟨q', rq', d1, d2, d3⟩ := hP.done hkeep.1 hkeep.2 h2
            refine ⟨h1, ⟨q', rq', d1, d2, d3⟩, ?_⟩
            rw [d2.cell (p := ⟨pb, po + i, none⟩) hpb2 (fun hm => hpF pb hm rfl)]
            exact hpw
        generalize s1.mvE pk = me at *
        have HP1 := Lib.hid P1
        have HP2 := Lib.hid P2
        have HD := Lib.hid hD
        clear P1 P2 hD
        go_upto_region 15 with (fail)
        go_region_held3 (fun W => W.cell? ⟨pb, po + i, none⟩ = some (.int .i64 pk)) (assumption)
          (first
            | (go_at_call 14; refine CA.mono ?_; rintro e w' ⟨rfl, hM, hk⟩)
            | (go_at_call 19; refine (CB _ (by assumption)).mono ?_; rintro e w' ⟨rfl, hD, hk⟩))
        all_goals
          obtain ⟨q', rq', d1, d2, d3⟩ := hD
          have D1 := Lib.hid d1
          have D3 := Lib.hid d3
          clear d1 d3
          go_wp2
          go_roundg (ps.length - (i + 1))
          case measure => omega
          case rel => exact ⟨i + 1, _, q', rq', s2, q2, rq2, by omega, rfl, by go_num, D1.out, (HP2.out.chg0 ((Chg.refl [] wr).drew)).chg d2 (fun k hk hx => HD.out k hx hk), (fun k hk hx => by rcases D3.out k hk with e | e; exact HD.out k e hx; have := HP2.out.lt k hx; have e : wr.heap.size ≤ k := e; omega), hcx.trans d2 (fun x hx => .inr (hPx.new x hx))⟩
    · obtain rfl : i = ps.length := by omega
      have hA1 := alike_calls wr ab s1 q1 ar rq1 P1.l P1.r P1.good.1 P1.ends.wz
      have hA2 := fun w' (hc : Chg [] wr w') => alike_calls w' bb s2 q2 br rq2 (P2.chg0 hc).l (P2.chg0 hc).r P2.good.1 P2.ends.wz
      clear P1 P2 hD
      go_upto_region 17 with (fail)
      go_wp2_with fail
      go_at_call 20
      refine hA1.mono ?_
      rintro e w3 ⟨rfl, hc3⟩
      go_wp2_with fail
      go_at_call 20
      refine (hA2 w3 hc3).mono ?_
      rintro e w4 ⟨rfl, hc4⟩
      go_wp2_with (go_at_call 16; refine (awake_calls w4).mono ?_; rintro e w7 ⟨rfl, hc7⟩)
      go_ret
      exact ⟨rfl, ((hcw.nil_trans hc3).nil_trans hc4).nil_trans hc7⟩

end Go.Proofs.Ytfmdghijbkddpaa

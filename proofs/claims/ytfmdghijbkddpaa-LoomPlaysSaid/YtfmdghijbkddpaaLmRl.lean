/- LoomMoves: its walk. -/
import Derived.Test.YtfmdghijbkddpaaLmRk
namespace Go.Proofs.Ytfmdghijbkddpaa
open Go.RowKit
set_option linter.unusedVariables false
set_option linter.unusedSimpArgs false

theorem most_no (a j r : Int) (w : World) (h : ¬ mayP a j r) : Calls Try.prog 21 #[.int .i64 a, .int .i64 j, .int .i64 r] w fun e w' => e = .returned (.int .i64 0) ∧ Chg [] w w' := by
  go_enter Try.func21, Try.ntmps21
  go_wp2_with (go_at_call 32; refine (may_no _ _ _ _ h).mono ?_; rintro e w1 ⟨rfl, rfl⟩)
  go_ret
  exact ⟨rfl, Chg.refl _ _⟩
theorem rmost_no (a j r : Int) (w : World) (h : ¬ mayP a j r) : Calls Try.prog 24 #[.int .i64 a, .int .i64 j, .int .i64 r] w fun e w' => e = .returned (.int .i64 0) ∧ Chg [] w w' := by
  go_enter Try.func24, Try.ntmps24
  go_wp2_with (go_at_call 44; refine (rnew_no _ _ _ _ h).mono ?_; rintro e w1 ⟨rfl, rfl⟩)
  go_ret
  exact ⟨rfl, Chg.refl _ _⟩
theorem rmost_yes (a j r : Nat) (w : World) (h1 : 1 ≤ a) (h2 : a ≤ 64) (h3 : j ≤ 65536) (h4 : r ≤ 65536) : Calls Try.prog 24 #[.int .i64 a, .int .i64 j, .int .i64 r] w fun e w' => e = .returned (.int .i64 (a + 1 + (if r = 0 then 2 else 3) * j : Nat)) ∧ Chg [] w w' := by
  have hn := rnew_yes a j r w h1 h2 h3 h4
  by_cases h0 : r = 0
  · subst h0
    go_enter Try.func24, Try.ntmps24
    go_wp2_with (go_at_call 44; refine hn.mono ?_; rintro e w1 ⟨b, q, rfl, k1, k2, k3⟩)
    go_ret
    exact ⟨rfl, k2⟩
  · have d : ((r : Int) == 0) = false := by simp; omega
    have e1 : (if r = 0 then 2 else 3) = 3 := by rw [if_neg h0]
    have E1 := Lib.hid e1
    clear e1
    go_enter Try.func24, Try.ntmps24
    go_wp2_with (go_at_call 44; refine hn.mono ?_; rintro e w1 ⟨b, q, rfl, k1, k2, k3⟩)
    go_ret
    exact ⟨rfl, k2⟩

theorem init_gone (a j r : Nat) (hj : 1 ≤ j) : (LS.init a j r).gone = 0 := by
  have hn : LS.init a j r = LS.init0 a j r := by
    show (LS.init0 a j r).looked = _
    unfold LS.looked
    rw [if_neg]
    rintro ⟨_, h⟩
    have h : 0 = j := h
    omega
  rw [hn]
  unfold LS.gone LS.left LS.init0
  simp only [(init_lists a).2.1]
  rfl

/-- The cancel, told to both. -/
def LS.cE (s : LS) : Int := if s.canc = true then 130 else 0
def LS.cS (s : LS) : LS := { s with canc := true }
theorem cS_keep (s : LS) (hg : s.good) (he : s.ends) : s.cS.good ∧ s.cS.ends := ⟨⟨inv_canc s hg.1, hg.2⟩, he.wz, he.once, he.o1, fun x => ⟨(he.o2 x).1, rfl⟩⟩
theorem c_calls (w : World) (b : Nat) (s : LS) (q : LV) (h : LmIs w b s q) : Calls Try.prog 17 #[.pointer (some ⟨b, 0, none⟩)] w fun e w' => e = .returned (.int .i64 s.cE) ∧ MakeP w b q s.cS w' := by
  cases hc : s.canc with
  | true =>
    have e1 : s.cE = 130 := by unfold LS.cE; rw [if_pos hc]
    have e2 : s.cS = s := by unfold LS.cS; rw [← hc]
    rw [e1, e2]
    exact (cancel_no w b s q h hc).mono fun e w' ⟨h1, h2⟩ => ⟨h1, q, by rw [h2]; exact h, by rw [h2]; exact Chg.refl _ _, fun k hk => .inl hk⟩
  | false =>
    have e1 : s.cE = 0 := by unfold LS.cE; rw [if_neg (by rw [hc]; simp)]
    rw [e1]
    exact (cancel_yes w b s q h hc).mono fun e w' ⟨h1, h2, h3⟩ => ⟨h1, q, h2, h3.mono (fun x hx _ => by simp at hx; simp [LV.foot, hx]), fun k hk => .inl hk⟩
theorem rc_calls (w : World) (b : Nat) (s : LS) (q : RV) (h : RefIs w b s q) : Calls Try.prog 26 #[.pointer (some ⟨b, 0, none⟩)] w fun e w' => e = .returned (.int .i64 s.cE) ∧ RMakeP w b q s.cS w' := by
  cases hc : s.canc with
  | true =>
    have e1 : s.cE = 130 := by unfold LS.cE; rw [if_pos hc]
    have e2 : s.cS = s := by unfold LS.cS; rw [← hc]
    rw [e1, e2]
    exact (rcancel_no w b s q h hc).mono fun e w' ⟨h1, h2⟩ => ⟨h1, q, by rw [h2]; exact h, by rw [h2]; exact Chg.refl _ _, fun k hk => .inl hk⟩
  | false =>
    have e1 : s.cE = 0 := by unfold LS.cE; rw [if_neg (by rw [hc]; simp)]
    rw [e1]
    exact (rcancel_yes w b s q h hc).mono fun e w' ⟨h1, h2, h3⟩ => ⟨h1, q, h2, h3.mono (fun x hx _ => by simp at hx; simp [LV.foot, hx]), fun k hk => .inl hk⟩

set_option maxRecDepth 100000 in
set_option maxHeartbeats 8000000 in
theorem moves_main (w : World) (a j r : Nat) (h1 : 1 ≤ a) (h2 : a ≤ 64) (h3 : j ≤ 65536) (h4 : r ≤ 65536) (v : Value) (ps : List Int) (hv : NsIs .i64 w v ps) (hpl : ps.length ≤ 400) :
    Calls Try.prog 7 #[.int .i64 a, .int .i64 j, .int .i64 r, v] w (Res w [] (.bool true)) := by
  have hm1 := fun w => most_yes a j r w h1 h2 h3 h4
  have hm2 := fun w => rmost_yes a j r w h1 h2 h3 h4
  have hmb : a + 1 + (if r = 0 then 2 else 3) * j ≤ 300000 := by split <;> omega
  generalize a + 1 + (if r = 0 then 2 else 3) * j = mb at *
  have htw := fun w => two_yes a j r w h1 h2 h3 h4
  have hp1 : ∀ w0 w1 b q rb rq, LmIs w1 b (LS.init a j r) q → RefIs w1 rb (LS.init a j r) rq → (∀ k ∈ q.foot b, w0.heap.size ≤ k) → (∀ k ∈ rq.lv.foot rb, w0.heap.size ≤ k) → (∀ k ∈ q.foot b, k ∉ rq.lv.foot rb) → PR w0 w1 b q rb rq (LS.init a j r) := fun w0 w1 b q rb rq => pr_init h1 h2 h3 h4
  have hgn := init_gone a j r
  generalize LS.init a j r = s0 at *
  obtain ⟨hW, pa, pcap, rfl, hpr⟩ := hv
  have d1 : decide ((400 : Int) < ps.length) = false := by simp; omega
  go_enter Try.func7, Try.ntmps7
  go_wp2_with fail
  go_at_call 21
  refine (hm1 w).mono ?_
  rintro e w1 ⟨rfl, hw1⟩
  obtain rfl : w = w1 := hw1.symm
  go_wp2_with fail
  go_at_call 24
  refine (hm2 w).mono ?_
  rintro e w1 ⟨rfl, hc1⟩
  go_upto_region 4 with (go_at_call 18; refine (htw w1).mono ?_; rintro e w2 ⟨b, q, rb, rq, rfl, k1, k2, k3, k4, k5, k6⟩)
  have hs1 := hc1.size
  have P := hp1 w w2 _ _ _ _ k1 k2 (fun k hk => by have := k4 k hk; omega) (fun k hk => by have := k5 k hk; omega) k6
  have hc0 := hc1.nil_trans k3
  clear k1 k2 k3 k4 k5 k6 hp1 htw hc1 hm1 hm2 hs1
  by_cases hj : 2000 < j
  · have d3 : decide (2000 < j) = true := by simp [hj]
    have hG := gone_calls w2 b s0 q P.l
    rw [hgn (by omega)] at hG
    have hml : s0.moves.length ≤ 260 := by have := moves_length s0; have := P.l.2.2.2.2.2.ws; omega
    go_wp2_with fail
    go_at_call 23
    refine hG.mono ?_
    rintro e w3 ⟨rfl, hc3⟩
    have P3 := P.chg0 hc3
    go_wp2_with fail
    go_at_call 13
    refine (moves_calls w3 b s0 q P3.l).mono ?_
    rintro e w4 ⟨va, rfl, hr4, hc4, _⟩
    obtain ⟨xa, xcap, rfl, _⟩ := hr4.slice
    have P4 := P3.chg0 hc4
    go_wp2_with fail
    go_at_call 25
    refine (rmoves_calls w4 rb s0 rq P4.r P4.good.1 P4.ends.wz).mono ?_
    rintro e w5 ⟨vb, rfl, hr5, hc5, _⟩
    obtain ⟨ya, ycap, rfl, _⟩ := hr5.slice
    clear P P3 P4 hr4 hr5 hG
    go_wp2_with (go_at_call 16; refine (awake_calls w5).mono ?_; rintro e w7 ⟨rfl, hc7⟩)
    go_ret
    exact ⟨rfl, (((hc0.nil_trans hc3).nil_trans hc4).nil_trans hc5).nil_trans hc7⟩
  · have d3 : decide (2000 < j) = false := by simp; omega
    go_upto_region 10 with (fail)
    go_wp2
    go_loopg [12] ps.length (fun g ii wx => ∃ (i : Nat) (s : LS) (q : LV) (rq : RV), i ≤ ps.length ∧ g = ps.length - i ∧ ii = .int .i64 i ∧ PR w wx b q rb rq s ∧ Chg [] w wx)
    case atStart => exact ⟨0, s0, q, rq, by omega, by omega, rfl, P, hc0⟩
    case round =>
      clear P hc0 hgn
      obtain ⟨i, s, q, rq, hi, hgi, rfl, P, hcw⟩ := hrel
      by_cases hlt : i < ps.length
      · have hlt' : i < ps.length := hlt
        obtain ⟨pb, po, rfl, hpb, hpc⟩ : ∃ pb po, pa = some ⟨pb, po, none⟩ ∧ pb < w.heap.size ∧ ∀ i (hi : i < ps.length), w.cell? ⟨pb, po + i, none⟩ = some (.int .i64 ps[i]) := by
          rcases hpr with e | e
          · rw [e] at hlt'; simp at hlt'
          · exact e
        have hpt : wr.cell? ⟨pb, po + i, none⟩ = some (.int .i64 ps[i]) := by
          rw [hcw.cell (p := ⟨pb, po + i, none⟩) hpb (by simp)]
          exact hpc i hlt'
        have hpw9 := wf_i64 (hW ps[i] (List.getElem_mem hlt'))
        have hpl5 := World.block_lt_of_cell? _ _ hpt
        clear hpc
        generalize ps[i] = pk at *
        have hkc := cS_keep s P.good P.ends
        by_cases hneg : pk < 0
        · have hC := c_calls wr b s q P.l
          have hC2 : ∀ W, MakeP wr b q s.cS W → _ := fun W hm => rc_calls W rb s rq (PH.ref ⟨P, hcw.size, hm⟩)
          have HKC := Lib.hid hkc
          clear hkc
          generalize s.cE = ce at *
          generalize s.cS = s2 at *
          go_wp2_with fail
          go_at_call 17
          refine hC.mono ?_
          rintro e w4 ⟨rfl, hM⟩
          go_wp2_with fail
          go_at_call 26
          refine (hC2 w4 hM).mono ?_
          rintro e w5 ⟨rfl, hR⟩
          clear hC hC2
          obtain ⟨q', rq', d1, d2, d3⟩ := PH.done ⟨P, hcw.size, hM⟩ HKC.out.1 HKC.out.2 hR
          have hcw2 : Chg [] w w5 := hcw.trans d2 (fun x hx => .inr (P.new x hx))
          have hA := alike_calls w5 b _ q' rb rq' d1.l d1.r d1.good.1 d1.ends.wz
          have D1 := Lib.hid d1
          clear d1 d2 d3 hM hR P
          go_wp2_with (go_at_call 20; refine hA.mono ?_; rintro e w6 ⟨rfl, hc6⟩)
          go_roundg (ps.length - (i + 1))
          case measure => omega
          case rel => exact ⟨i + 1, _, q', rq', by omega, rfl, by go_num, D1.out.chg0 hc6, hcw2.nil_trans hc6⟩
        · clear hkc
          have hml : s.moves.length ≤ 260 := by have := moves_length s; have := P.l.2.2.2.2.2.ws; omega
          go_upto_region 18 with (go_at_call 25; refine (rmoves_calls wr rb s rq P.r P.good.1 P.ends.wz).mono ?_; rintro e w3 ⟨vm, rfl, hrm, hc3, _⟩; obtain ⟨xa, xcap, rfl, _⟩ := hrm.slice)
          clear hrm
          replace P := P.chg0 hc3
          replace hcw := hcw.nil_trans hc3
          have hX : ∃ kk : Int, 0 ≤ kk ∧ kk < 9223372036854775808 ∧ kk = (if 0 < s.moves.length ∧ 3 ≤ pk then pk.tmod (s.moves.length + 1) else pk) := by
            refine ⟨_, ?_, ?_, rfl⟩
            · split
              · exact Int.tmod_nonneg _ (by omega)
              · omega
            · split
              · have := Int.tmod_lt_of_pos pk (show (0 : Int) < s.moves.length + 1 by omega)
                omega
              · omega
          obtain ⟨kk, hk1, hk2, hkk⟩ := hX
          have HKK := Lib.hid hkk
          clear hkk
          go_cut [90] from 85 to 90 (fun bb wx => bb = .bool (decide (0 < s.moves.length) && decide (3 ≤ pk)) ∧ wx = w3)
          case first =>
            by_cases hz : 0 < s.moves.length
            · have e1 : decide (0 < s.moves.length) = true := by simp [hz]
              go_wp2
              go_meet
              exact ⟨by simp [hz], rfl⟩
            · have e1 : decide (0 < s.moves.length) = false := decide_eq_false hz
              go_wp2
              go_meet
              exact ⟨by simp [e1], rfl⟩
          case rest =>
          obtain ⟨rfl, hwe⟩ := hcut
          subst hwe
          go_upto_if 90 with (fail)
          go_cut [13, 90] from 91 to 94 (fun vk bb wx => vk = .int .i64 kk ∧ wx = wc)
          case first =>
            cases hB : (decide (0 < s.moves.length) && decide (3 ≤ pk)) with
            | true =>
              simp at hB
              have e : kk = pk.tmod (s.moves.length + 1) := by rw [HKK.out, if_pos hB]
              have E := Lib.hid e
              clear e
              go_wp2
              go_meet
              exact ⟨by rw [E.out, Int.tmod_eq_emod_of_nonneg (by omega)], rfl⟩
            | false =>
              have e : kk = pk := by
                rw [HKK.out, if_neg]
                simp at hB
                intro h
                have := hB h.1
                omega
              have E := Lib.hid e
              clear e hB
              go_wp2
              go_meet
              exact ⟨by rw [E.out], rfl⟩
          case rest =>
          obtain ⟨rfl, hwe⟩ := hcut
          subst hwe
          have hkm := mvS_keep s kk P.good P.ends
          have hC := mv_calls wc b s q kk P.l P.good
          have hC2 : ∀ W, MakeP wc b q (s.mvS kk) W → _ := fun W hm => rmv_calls W rb s rq kk (PH.ref ⟨P, hcw.size, hm⟩) P.good P.ends
          have HKC := Lib.hid hkm
          clear hkm
          generalize s.mvE kk = ce at *
          generalize s.mvS kk = s2 at *
          go_wp2_with fail
          go_at_call 14
          refine hC.mono ?_
          rintro e w4 ⟨rfl, hM⟩
          go_wp2_with fail
          go_at_call 19
          refine (hC2 w4 hM).mono ?_
          rintro e w5 ⟨rfl, hR⟩
          clear hC hC2
          obtain ⟨q', rq', d1, d2, d3⟩ := PH.done ⟨P, hcw.size, hM⟩ HKC.out.1 HKC.out.2 hR
          have hcw2 : Chg [] w w5 := hcw.trans d2 (fun x hx => .inr (P.new x hx))
          have hA := alike_calls w5 b _ q' rb rq' d1.l d1.r d1.good.1 d1.ends.wz
          have D1 := Lib.hid d1
          clear d1 d2 d3 hM hR P
          go_wp2_with (go_at_call 20; refine hA.mono ?_; rintro e w6 ⟨rfl, hc6⟩)
          go_roundg (ps.length - (i + 1))
          case measure => omega
          case rel => exact ⟨i + 1, _, q', rq', by omega, rfl, by go_num, D1.out.chg0 hc6, hcw2.nil_trans hc6⟩
      · obtain rfl : i = ps.length := by omega
        have hA1 := alike_calls wr b s q rb rq P.l P.r P.good.1 P.ends.wz
        clear P
        go_upto_region 24 with (fail)
        go_wp2_with fail
        go_at_call 20
        refine hA1.mono ?_
        rintro e w3 ⟨rfl, hc3⟩
        go_wp2_with (go_at_call 16; refine (awake_calls w3).mono ?_; rintro e w7 ⟨rfl, hc7⟩)
        go_ret
        exact ⟨rfl, (hcw.nil_trans hc3).nil_trans hc7⟩
theorem moves_long (w : World) (a j r : Int) (v : Value) (ps : List Int) (hv : NsIs .i64 w v ps) (hl : 400 < ps.length) :
    Calls Try.prog 7 #[.int .i64 a, .int .i64 j, .int .i64 r, v] w (Res w [] (.bool true)) := by
  obtain ⟨hW, pa, pcap, rfl, hpr⟩ := hv
  have d1 : decide ((400 : Int) < ps.length) = true := by simp; omega
  go_enter Try.func7, Try.ntmps7
  go_wp2
  go_ret
  exact ⟨by simp [Res] <;> omega, Chg.refl _ _⟩
theorem moves_no (w : World) (a j r : Int) (v : Value) (ps : List Int) (hv : NsIs .i64 w v ps) (hl : ps.length ≤ 400) (h : ¬ mayP a j r) :
    Calls Try.prog 7 #[.int .i64 a, .int .i64 j, .int .i64 r, v] w (Res w [] (.bool true)) := by
  obtain ⟨hW, pa, pcap, rfl, hpr⟩ := hv
  have d1 : decide ((400 : Int) < ps.length) = false := by simp; omega
  go_enter Try.func7, Try.ntmps7
  go_wp2_with fail
  go_at_call 21
  refine (most_no _ _ _ w h).mono ?_
  rintro e w1 ⟨rfl, hc1⟩
  go_wp2_with fail
  go_at_call 24
  refine (rmost_no _ _ _ w1 h).mono ?_
  rintro e w2 ⟨rfl, hc2⟩
  go_upto_region 4 with (go_at_call 18; refine (two_no _ _ _ w2 h).mono ?_; rintro e w3 ⟨rfl, hw3⟩; obtain rfl : w2 = w3 := hw3.symm)
  go_wp2_with (go_at_call 16; refine (awake_calls w2).mono ?_; rintro e w7 ⟨rfl, hc7⟩)
  go_ret
  exact ⟨rfl, (hc1.nil_trans hc2).nil_trans hc7⟩
theorem moves_walk (w : World) (a : Int) (ha : -9223372036854775808 ≤ a ∧ a < 9223372036854775808) (j : Int) (hj : -9223372036854775808 ≤ j ∧ j < 9223372036854775808) (r : Int) (hr : -9223372036854775808 ≤ r ∧ r < 9223372036854775808) (v : Value) (ps : List Int) (hv : NsIs .i64 w v ps) :
    Calls Try.prog 7 #[.int .i64 a, .int .i64 j, .int .i64 r, v] w (Res w [] (.bool true)) := by
  by_cases hl : ps.length ≤ 400
  · by_cases h : mayP a j r
    · obtain ⟨k1, k2, k3, k4, k5, k6⟩ := h
      obtain ⟨a, rfl⟩ : ∃ n : Nat, a = n := ⟨a.toNat, by omega⟩
      obtain ⟨j, rfl⟩ : ∃ n : Nat, j = n := ⟨j.toNat, by omega⟩
      obtain ⟨r, rfl⟩ : ∃ n : Nat, r = n := ⟨r.toNat, by omega⟩
      exact moves_main w a j r (by omega) (by omega) (by omega) (by omega) v ps hv hl
    · exact moves_no w a j r v ps hv hl h
  · exact moves_long w a j r v ps hv (by omega)
end Go.Proofs.Ytfmdghijbkddpaa

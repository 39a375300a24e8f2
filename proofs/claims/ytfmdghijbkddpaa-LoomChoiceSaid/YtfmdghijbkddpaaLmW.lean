/- LoomShuts: its walk. -/
import Derived.Test.YtfmdghijbkddpaaLmU
import Derived.Test.YtfmdghijbkddpaaLmV
import Derived.Test.YtfmdghijbkddpaaNumsI
namespace Go.Proofs.Ytfmdghijbkddpaa
open Go.RowKit
set_option linter.unusedVariables false
set_option linter.unusedSimpArgs false

theorem LR.canc {w wr w' : World} {a j r b : Nat} {s : LS} {q : LV} (h : LR w a j r b s q wr) (hl : LmIs w' b { s with canc := true } q) (hc : Chg [b] wr w') : LR w a j r b { s with canc := true } q w' :=
  ⟨hl, ⟨inv_canc s h.good.1, h.good.2⟩, h.jobs, h.ws, h.room, h.chg.trans hc (fun x hx => .inr (h.new x (by simp at hx; simp [LV.foot, hx]))), h.new⟩

set_option maxRecDepth 100000 in
set_option maxHeartbeats 4000000 in
theorem shuts_main (w : World) (a j r : Nat) (h1 : 1 ≤ a) (h2 : a ≤ 64) (h3 : j ≤ 400) (h4 : r ≤ 65536) (v : Value) (ps : List Int) (hv : NsIs .i64 w v ps) (hpl : ps.length ≤ 400) (cn : Int) :
    Calls Try.prog 4 #[.int .i64 a, .int .i64 j, .int .i64 r, v, .int .i64 cn] w (Res w [] (.bool true)) := by
  have hnew := new_yes a j r w h1 h2 (by omega) h4
  have hsh : (LS.init a j r).shuts 0 := shuts_init a j r h2 h3
  have hi0 : (LS.init a j r).shut = false ∧ (LS.init a j r).next = 0 ∧ (LS.init a j r).ch.length = 0 := ⟨(ch_looked _).2.2, (ch_looked _).2.1, by rw [show (LS.init a j r).ch = [] from (ch_looked _).1]; rfl⟩
  have hir : ∀ w' b q, LmIs w' b (LS.init a j r) q → Chg [] w w' → (∀ k ∈ q.foot b, w.heap.size ≤ k) → LR w a j r b (LS.init a j r) q w' := fun w' b q => LR.init h1 h2 (by omega) h4
  generalize LS.init a j r = s0 at *
  obtain ⟨hW, pa, pcap, rfl, hpr⟩ := hv
  go_enter Try.func4, Try.ntmps4
  go_upto_region 3 with (go_at_call 10; refine (sane_yes _ _ _ w ⟨by omega, by omega, by omega, by omega, by omega, by omega⟩).mono ?_; rintro e w1 ⟨rfl, hw1⟩; obtain rfl : w = w1 := hw1.symm)
  go_upto_region 6 with (go_at_call 11; refine hnew.mono ?_; rintro e w1 ⟨b, q, rfl, k1, k2, k3⟩)
  have hL := hir _ _ _ k1 k2 k3
  clear k1 k2 k3 hir hnew
  go_upto_region 7 with (fail)
  go_wp2
  go_loopg [13, 14, 15, 16, 17] 2000 (fun g sh pu gi he tt wr => ∃ (t : Nat) (s : LS) (q : LV), g = 2000 - t ∧ t ≤ 1300 ∧ tt = .int .i64 t ∧ sh = .bool s.shut ∧ pu = .int .i64 s.next ∧ gi = .int .i64 (s.next - s.ch.length : Nat) ∧ he = .int .i64 s.ch.length ∧ LR w a j r b s q wr ∧ s.shuts t)
  case atStart => exact ⟨0, s0, q, rfl, by omega, rfl, by rw [hi0.1], by rw [hi0.2.1]; rfl, by rw [hi0.2.1, hi0.2.2]; rfl, by rw [hi0.2.2]; rfl, hL, hsh⟩
  case round =>
    obtain ⟨t, s, q3, hgt, htb, rfl, rfl, rfl, rfl, rfl, hL1, ht⟩ := hrel
    have htm : t ≤ 1265 := by have := ht.made; have := ht.phi; omega
    go_upto_if 50 with (fail)
    go_cut [] (fun wx => ∃ (s' : LS) (q' : LV), s'.shut = s.shut ∧ s'.next = s.next ∧ s'.ch = s.ch ∧ s'.shuts t ∧ LR w a j r b s' q' wx)
    case first =>
      by_cases htc : (t : Int) = cn
      · have b1 : ((t : Int) == cn) = true := by simp [htc]
        have HTC := Lib.hid htc
        clear htc
        cases hc : s.canc with
        | true =>
          go_wp2_with (go_at_call 17; refine (cancel_no wr b s q3 hL1.is hc).mono ?_; rintro e w4 ⟨rfl, hw4⟩; obtain rfl : wr = w4 := hw4.symm)
          go_meet
          exact ⟨s, q3, rfl, rfl, rfl, ht, hL1⟩
        | false =>
          go_wp2_with (go_at_call 17; refine (cancel_yes wr b s q3 hL1.is hc).mono ?_; rintro e w4 ⟨rfl, h4, hc4⟩)
          go_meet
          exact ⟨{ s with canc := true }, q3, rfl, rfl, rfl, shuts_canc s t ht, hL1.canc h4 hc4⟩
      · have b1 : ((t : Int) == cn) = false := by simp [htc]
        go_wp2
        go_meet
        exact ⟨s, q3, rfl, rfl, rfl, ht, hL1⟩
    case rest =>
    clear hL1 ht
    obtain ⟨s', q', e1, e2, e3, ht', hL'⟩ := hcut
    have e4 : s'.ch.length = s.ch.length := by rw [e3]
    rw [← e1, ← e2, ← e4]
    clear e1 e2 e3 e4
    go_upto_region 13 with (go_at_call 13; refine (moves_calls _ b s' q' hL'.is).mono ?_; rintro e w5 ⟨v, rfl, hr, hc5, _⟩)
    have hL5 := hL'.chg0 hc5
    have hlen : s'.moves.length ≤ 260 := by have := moves_length s'; have := hL5.is.2.2.2.2.2.ws; omega
    obtain ⟨va, vcap, hve, _⟩ := hr.slice
    by_cases hz : s'.moves.length = 0
    · rw [hz] at hve
      subst hve
      clear hz hr
      go_wp2_with (go_at_call 16; refine (awake_calls _).mono ?_; rintro e w7 ⟨rfl, hc7⟩)
      go_ret
      exact ⟨rfl, hL5.chg.nil_trans hc7⟩
    · have hpos : 0 < s'.moves.length := by omega
      clear hve
      obtain ⟨mg, mo, mcap, rfl, _, _⟩ := hr.ptr hpos
      have HR := Lib.hid hr
      clear hr
      go_upto_if 62 with (fail)
      go_cut [19] (fun kk wx => ∃ k : Nat, k < s'.moves.length ∧ kk = .int .i64 k ∧ wx = w5)
      case first =>
        by_cases hpk : t < ps.length
        · have d1 : decide (t < ps.length) = true := by simp [hpk]
          obtain ⟨pb, po, rfl, hpb, hpc⟩ : ∃ pb po, pa = some ⟨pb, po, none⟩ ∧ pb < w.heap.size ∧ ∀ i (hi : i < ps.length), w.cell? ⟨pb, po + i, none⟩ = some (.int .i64 ps[i]) := by
            rcases hpr with e | e
            · rw [e] at hpk; simp at hpk
            · exact e
          have hpt : w5.cell? ⟨pb, po + t, none⟩ = some (.int .i64 ps[t]) := by
            rw [hL5.chg.cell (p := ⟨pb, po + t, none⟩) hpb (by simp)]
            exact hpc t hpk
          have hpw := wf_i64 (hW ps[t] (List.getElem_mem hpk))
          have hpl5 := World.block_lt_of_cell? _ _ hpt
          clear hpc
          generalize ps[t] = pk at *
          have hm1 : pk.tmod s'.moves.length < s'.moves.length := Int.tmod_lt_of_pos _ (by omega)
          have hm2 : -(s'.moves.length : Int) < pk.tmod s'.moves.length := Int.lt_tmod_of_pos _ (by omega)
          by_cases hneg : pk.tmod s'.moves.length < 0
          · go_wp2
            go_meet
            exact ⟨(-(pk.tmod s'.moves.length)).toNat, by omega, by rw [Int.toNat_of_nonneg (by omega)], rfl⟩
          · go_wp2
            go_meet
            exact ⟨(pk.tmod s'.moves.length).toNat, by omega, by rw [Int.toNat_of_nonneg (by omega)], rfl⟩
        · have d1 : decide (t < ps.length) = false := by simp [hpk]
          go_wp2
          go_meet
          exact ⟨0, hpos, rfl, rfl⟩
      case rest =>
      obtain ⟨k, hk, rfl, hwe⟩ := hcut
      obtain rfl : w5 = wc := hwe.symm
      obtain ⟨x1, x2, x3⟩ := mCells_at s'.moves k hk
      have y1 := HR.out.cell x1
      have y2 := HR.out.cell x2
      have y3 := HR.out.cell x3
      rw [← Nat.add_assoc] at y2 y3
      have hgl := World.block_lt_of_cell? _ _ y1
      have hcan := can_of_mem s' s'.moves[k] (List.getElem_mem hk)
      have htell := make_tells s' s'.moves[k] hL5.good.1 hcan
      have hshm := shuts_make s' t _ hL5.good.1 ht' hcan
      have hgiv := shuts_given s' t hL5.good.1 ht'
      have hcl : s'.ch.length ≤ s'.next := by have := hL5.good.1.cnt; omega
      have hnj : s'.next ≤ s'.jobs := hL5.good.1.next
      have hn9 : s'.next ≤ 65536 := by have := hL5.good.1.jobs; omega
      have hc9 : s'.ch.length ≤ 65536 := by omega
      have hjj : s'.jobs = j := hL5.jobs
      have hrr : s'.room = r := hL5.room
      have hmk := fun (w6 : World) (hc : Chg [] w5 w6) => move_ok w6 b s' q' k (hL5.chg0 hc).is hL5.good hk
      have hLm := fun (w6 w7 : World) (hc : Chg [] w5 w6) (hM : MakeP w6 b q' (s'.make s'.moves[k]) w7) => (hL5.chg0 hc).make hcan hM
      have HG := Lib.hid hgiv
      have HI := Lib.hid hL5.good.1
      clear x1 x2 x3 hgiv
      generalize s'.moves[k] = m at *
      generalize hs2 : s'.make m = s2 at *
      have HS2 := Lib.hid hs2
      have HT := Lib.hid htell
      clear hs2 htell hL' hL5
      have HJ := Lib.hid hjj
      have HRR := Lib.hid hrr
      clear hjj hrr
      cases hcan with
      | put g1 g2 g3 =>
        have T := HT.out.1 rfl
        have T1 := Lib.hid T.1
        have T2 := Lib.hid T.2.1
        have T3 := Lib.hid T.2.2
        have e3 : decide (r ≤ s'.ch.length) = false := by have := HRR.out; simp; omega
        have e4 : ¬ r ≤ s'.ch.length := by have := HRR.out; omega
        clear T
        dsimp only at y1 y2 y3
        go_wp2_with (go_at_call 14; refine (hmk _ ((Chg.refl _ _).alloc _)).mono ?_; rintro e w7 ⟨rfl, hM⟩)
        obtain ⟨q7, hL7⟩ := hLm _ _ ((Chg.refl _ _).alloc _) hM
        go_roundg (2000 - (t + 1))
        case measure => omega
        case rel =>
          have T1 := T1.out
          have T2 := T2.out
          have T3 := T3.out
          refine ⟨t + 1, s2, q7, rfl, by omega, by go_num, ?_, ?_, ?_, ?_, hL7, hshm⟩
          · rw [T1, g1]
          · rw [T2]; rfl
          · rw [T2, T3, show s'.next + 1 - (s'.ch.length + 1) = s'.next - s'.ch.length from by omega]
          · rw [T3]; rfl
      | shut g1 g2 =>
        have T := HT.out.2.2.1 rfl
        have T1 := Lib.hid T.1
        have T2 := Lib.hid T.2.1
        have T3 := Lib.hid T.2.2
        clear T
        have G2 := Lib.hid g2
        have e2 : s'.next = j := g2.trans HJ.out
        clear g2
        have b2 : ((s'.next : Int) != j) = false := by simp [e2]
        have b3 : ((s'.next : Int) == j) = true := by simp [e2]
        have b4 : decide (s'.next = j) = true := by simp [e2]
        have b5 : s'.next ≤ j := by omega
        have b6 : j ≤ s'.next := by omega
        have E2 := Lib.hid e2
        clear e2
        dsimp only at y1 y2 y3
        go_wp2_with (go_at_call 14; refine (hmk _ ((Chg.refl _ _).alloc _)).mono ?_; rintro e w7 ⟨rfl, hM⟩)
        obtain ⟨q7, hL7⟩ := hLm _ _ ((Chg.refl _ _).alloc _) hM
        go_roundg (2000 - (t + 1))
        case measure => omega
        case rel =>
          have T1 := T1.out
          have T2 := T2.out
          have T3 := T3.out
          refine ⟨t + 1, s2, q7, rfl, by omega, by go_num, ?_, ?_, ?_, ?_, hL7, hshm⟩
          · rw [T1]
          · rw [T2]
          · rw [T2, T3]
          · rw [T3]
      | leave i hi g1 g2 g3 =>
        have T := HT.out.2.2.2.1 (.inl rfl)
        have T1 := Lib.hid T.1
        have T2 := Lib.hid T.2.1
        have T3 := Lib.hid T.2.2
        clear T
        have G2 := Lib.hid g2
        have e2 : s'.ch.length = 0 := by rw [g2]; rfl
        clear g2 g3
        have b2 : decide (0 < s'.ch.length) = false := by simp [e2]
        have e3 : ¬ 0 < s'.ch.length := by omega
        have E2 := Lib.hid e2
        clear e2
        dsimp only at y1 y2 y3
        go_wp2_with (go_at_call 14; refine (hmk _ ((Chg.refl _ _).alloc _)).mono ?_; rintro e w7 ⟨rfl, hM⟩)
        obtain ⟨q7, hL7⟩ := hLm _ _ ((Chg.refl _ _).alloc _) hM
        go_roundg (2000 - (t + 1))
        case measure => omega
        case rel =>
          have T1 := T1.out
          have T2 := T2.out
          have T3 := T3.out
          refine ⟨t + 1, s2, q7, rfl, by omega, by go_num, ?_, ?_, ?_, ?_, hL7, hshm⟩
          · rw [T1, g1]
          · rw [T2]
          · rw [T2, T3]
          · rw [T3]
      | ans i hi g1 g2 =>
        have T := HT.out.2.2.2.1 (.inr (.inl rfl))
        have T1 := Lib.hid T.1
        have T2 := Lib.hid T.2.1
        have T3 := Lib.hid T.2.2
        clear T
        clear g1 g2
        dsimp only at y1 y2 y3
        go_wp2_with (go_at_call 14; refine (hmk _ ((Chg.refl _ _).alloc _)).mono ?_; rintro e w7 ⟨rfl, hM⟩)
        obtain ⟨q7, hL7⟩ := hLm _ _ ((Chg.refl _ _).alloc _) hM
        go_roundg (2000 - (t + 1))
        case measure => omega
        case rel =>
          have T1 := T1.out
          have T2 := T2.out
          have T3 := T3.out
          refine ⟨t + 1, s2, q7, rfl, by omega, by go_num, ?_, ?_, ?_, ?_, hL7, hshm⟩
          · rw [T1]
          · rw [T2]
          · rw [T2, T3]
          · rw [T3]
      | feeder g1 g2 =>
        have T := HT.out.2.2.2.2 ⟨rfl, rfl⟩
        have T1 := Lib.hid T.1
        have T2 := Lib.hid T.2.1
        have T3 := Lib.hid T.2.2
        clear T
        rw [g2]
        clear g1 g2
        dsimp only at y1 y2 y3
        go_wp2_with (go_at_call 14; refine (hmk _ ((Chg.refl _ _).alloc _)).mono ?_; rintro e w7 ⟨rfl, hM⟩)
        obtain ⟨q7, hL7⟩ := hLm _ _ ((Chg.refl _ _).alloc _) hM
        go_roundg (2000 - (t + 1))
        case measure => omega
        case rel =>
          have T1 := T1.out
          have T2 := T2.out
          have T3 := T3.out
          refine ⟨t + 1, s2, q7, rfl, by omega, by go_num, ?_, ?_, ?_, ?_, hL7, hshm⟩
          · rw [T1]
          · rw [T2]
          · rw [T2, T3]
          · rw [T3]
      | coll g1 g2 =>
        have T := HT.out.2.2.2.1 (.inr (.inr ⟨rfl, by simp⟩))
        have T1 := Lib.hid T.1
        have T2 := Lib.hid T.2.1
        have T3 := Lib.hid T.2.2
        clear T
        clear g1 g2
        dsimp only at y1 y2 y3
        go_wp2_with (go_at_call 14; refine (hmk _ ((Chg.refl _ _).alloc _)).mono ?_; rintro e w7 ⟨rfl, hM⟩)
        obtain ⟨q7, hL7⟩ := hLm _ _ ((Chg.refl _ _).alloc _) hM
        go_roundg (2000 - (t + 1))
        case measure => omega
        case rel =>
          have T1 := T1.out
          have T2 := T2.out
          have T3 := T3.out
          refine ⟨t + 1, s2, q7, rfl, by omega, by go_num, ?_, ?_, ?_, ?_, hL7, hshm⟩
          · rw [T1]
          · rw [T2]
          · rw [T2, T3]
          · rw [T3]
      | quit i hi g1 g2 =>
        have T := HT.out.2.2.2.1 (.inr (.inr ⟨rfl, by simp only; omega⟩))
        have T1 := Lib.hid T.1
        have T2 := Lib.hid T.2.1
        have T3 := Lib.hid T.2.2
        clear T
        clear g1 g2
        dsimp only at y1 y2 y3
        go_wp2_with (go_at_call 14; refine (hmk _ ((Chg.refl _ _).alloc _)).mono ?_; rintro e w7 ⟨rfl, hM⟩)
        obtain ⟨q7, hL7⟩ := hLm _ _ ((Chg.refl _ _).alloc _) hM
        go_roundg (2000 - (t + 1))
        case measure => omega
        case rel =>
          have T1 := T1.out
          have T2 := T2.out
          have T3 := T3.out
          refine ⟨t + 1, s2, q7, rfl, by omega, by go_num, ?_, ?_, ?_, ?_, hL7, hshm⟩
          · rw [T1]
          · rw [T2]
          · rw [T2, T3]
          · rw [T3]
      | give i hi g1 g2 =>
        have T := HT.out.2.1 rfl
        have T1 := Lib.hid T.1
        have T2 := Lib.hid T.2
        have G := Lib.hid (HG.out g1)
        clear T
        rw [G.out] at y3
        rcases given_can s' HI.out g1 with ⟨r1, r2, r3, r4⟩ | ⟨r1, jj, ll, r2, r3⟩
        · have R1 := Lib.hid r1
          have r0 : r = 0 := HRR.out.symm.trans r1
          have R0 := Lib.hid r0
          have b1 : ((r : Int) == 0) = true := by simp [r0]
          have b2 : decide (0 < r) = false := by simp [r0]
          have b3 : ¬ 0 < r := by omega
          have b4 : decide (r = 0) = true := by simp [r0]
          have R2 := Lib.hid r2
          rw [r2]
          clear r0 r1 r2 r3 r4 g2
          dsimp only at y1 y2 y3
          go_wp2_with (go_at_call 14; refine (hmk _ ((Chg.refl _ _).alloc _)).mono ?_; rintro e w7 ⟨rfl, hM⟩)
          obtain ⟨q7, hL7⟩ := hLm _ _ ((Chg.refl _ _).alloc _) hM
          go_roundg (2000 - (t + 1))
          case measure => omega
          case rel =>
            have T1 := T1.out
            have T2 := T2.out.1 R1.out
            have hc0 : s'.ch.length = 0 := by have := HI.out.ch; have := R1.out; omega
            refine ⟨t + 1, s2, q7, rfl, by omega, by go_num, ?_, ?_, ?_, ?_, hL7, hshm⟩
            · rw [T1, R2.out]
            · rw [T2.1]; rfl
            · rw [T2.1, T2.2, show s'.next + 1 - s'.ch.length = s'.next - s'.ch.length + 1 from by omega]; rfl
            · rw [T2.2]
        · have R1 := Lib.hid r1
          have r0 : 0 < r := by have := HRR.out; omega
          have hlen1 : 1 ≤ s'.ch.length := by rw [r2]; simp
          have b1 : ((r : Int) == 0) = false := by simp; omega
          have b4 : decide (0 < r) = true := by simp [r0]
          have b5 : decide (s'.ch.length < 1) = false := decide_eq_false (by omega)
          have b6 : ¬ s'.ch.length < 1 := by omega
          clear r2 r3 g2
          dsimp only at y1 y2 y3
          go_wp2_with (go_at_call 14; refine (hmk _ ((Chg.refl _ _).alloc _)).mono ?_; rintro e w7 ⟨rfl, hM⟩)
          obtain ⟨q7, hL7⟩ := hLm _ _ ((Chg.refl _ _).alloc _) hM
          go_roundg (2000 - (t + 1))
          case measure => omega
          case rel =>
            have T1 := T1.out
            have T2 := T2.out.2 R1.out
            have a1 : s2.ch.length + 1 = s'.ch.length := T2.2
            have a2 : s'.next - s2.ch.length = s'.next - s'.ch.length + 1 := by omega
            have a3 : (s2.ch.length : Int) = s'.ch.length - 1 := by omega
            refine ⟨t + 1, s2, q7, rfl, by omega, by go_num, ?_, ?_, ?_, ?_, hL7, hshm⟩
            · rw [T1]
            · rw [T2.1]
            · rw [T2.1, a2]; rfl
            · rw [a3]
end Go.Proofs.Ytfmdghijbkddpaa

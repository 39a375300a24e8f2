/- LoomChoice: its walk. -/
import Derived.Test.YtfmdghijbkddpaaLmW
import Derived.Test.YtfmdghijbkddpaaLmY
namespace Go.Proofs.Ytfmdghijbkddpaa
open Go.RowKit
set_option linter.unusedVariables false
set_option linter.unusedSimpArgs false

theorem out_stays (s : LS) (m : Mv) (hc : s.Can m) (hi : s.inv) (h : s.out ≠ 0) : (s.make m).out = s.out := by
  cases hc with
  | give i hi' h1 h2 => rcases make_give_eq s i hi h1 with ⟨g1, g2, g3, g4, e⟩ | ⟨g1, j, l, g2, g3, e⟩ <;> rw [e] <;> rfl
  | ans i hi' h1 h2 => exact absurd h1 h
  | coll h1 h2 => exact absurd h2 h
  | quit i hi' h1 h2 =>
    have e : s.make ⟨6, i, 0⟩ = ({ s with made := s.made + 1 } : LS).setW i (2, 0) := by
      unfold LS.make LS.quit
      simp
    rw [e]
    rfl
  | _ => rfl
theorem init_phi (a j r : Nat) (hj : 1 ≤ j) : (LS.init0 a j r).looked.out = 0 ∧ (LS.init0 a j r).looked.made = 0 ∧ (LS.init0 a j r).looked.phi = a + 1 + (if r = 0 then 2 else 3) * j := by
  have hn : (LS.init0 a j r).looked = LS.init0 a j r := by
    unfold LS.looked
    rw [if_neg]
    rintro ⟨_, h⟩
    have h : 0 = j := h
    omega
  rw [hn]
  obtain ⟨h1, h2, h3⟩ := init_lists a
  refine ⟨rfl, rfl, ?_⟩
  show phiN r j 0 0 0 0 false (List.replicate a ((0, 0) : Nat × Nat)).length ((List.replicate a ((0, 0) : Nat × Nat)).filter fun x => decide (x.1 = 2)).length = _
  rw [h2]
  simp only [phiN, List.length_replicate]
  by_cases e : r = 0
  · simp [e]
    omega
  · simp [e]
    omega
theorem coll_in (s : LS) (hc : s.canc = true) (ho : s.out = 0) : ∃ (i : Nat) (h : i < s.moves.length), s.moves[i].kind = 6 ∧ s.moves[i].who = -1 := by
  have : (⟨6, -1, 0⟩ : Mv) ∈ s.moves := by
    unfold LS.moves LS.mQuit
    rw [if_pos hc, if_pos ho]
    simp
  obtain ⟨i, hi, e⟩ := List.mem_iff_getElem.1 this
  exact ⟨i, hi, by rw [e], by rw [e]⟩
theorem coll_make (s : LS) (m : Mv) (h1 : m.kind = 6) (h2 : m.who = -1) : (s.make m).out = 2 := by
  unfold LS.make LS.quit
  simp [h1, h2]


theorem keen_out {s : LS} (h : s.keen) : (s.out = 0 ∧ s.keen) ∨ s.out = 1 := by
  rcases h.2.2.2.1 with e | e
  · exact .inl ⟨e, h⟩
  · exact .inr e.1

set_option maxRecDepth 100000 in
set_option maxHeartbeats 4000000 in
theorem choice_main (w : World) (a j r : Nat) (h1 : 1 ≤ a) (h2 : a ≤ 64) (h3 : 1 ≤ j) (h3' : j ≤ 400) (h4 : r ≤ 65536) :
    Calls Try.prog 6 #[.int .i64 a, .int .i64 j, .int .i64 r] w (Res w [] (.bool true)) := by
  have hnew := fun w => new_yes a j r w h1 h2 (by omega) h4
  have hmost := fun w => most_yes a j r w h1 h2 (by omega) h4
  have hke : (LS.init a j r).keen ∧ (LS.init a j r).ends := keen_init a j r
  have hin : (LS.init a j r).out = 0 ∧ (LS.init a j r).made = 0 ∧ (LS.init a j r).phi = a + 1 + (if r = 0 then 2 else 3) * j := init_phi a j r h3
  have hcc : (LS.init a j r).canc = false := by
    unfold LS.init LS.looked
    split <;> rfl
  have hbb : a + 1 + (if r = 0 then 2 else 3) * j ≤ 1265 := by split <;> omega
  have hir : ∀ w w' b q, LmIs w' b (LS.init a j r) q → Chg [] w w' → (∀ k ∈ q.foot b, w.heap.size ≤ k) → LR w a j r b (LS.init a j r) q w' := fun w w' b q => LR.init h1 h2 (by omega) h4
  generalize LS.init a j r = s0 at *
  generalize a + 1 + (if r = 0 then 2 else 3) * j = bd at *
  have b0 : ((j : Int) == 0) = false := by simp; omega
  go_enter Try.func6, Try.ntmps6
  go_upto_region 3 with (go_at_call 10; refine (sane_yes _ _ _ w ⟨by omega, by omega, by omega, by omega, by omega, by omega⟩).mono ?_; rintro e w1 ⟨rfl, hw1⟩; obtain rfl : w = w1 := hw1.symm)
  go_wp2
  generalize hw0 : World.alloc w _ = w0
  go_loopg [27] 3 (fun g ii wr => ∃ i : Nat, i ≤ 2 ∧ g = 3 - i ∧ ii = .int .i64 i ∧ Chg [] w0 wr)
  case atStart => exact ⟨0, by omega, rfl, rfl, Chg.refl _ _⟩
  case round =>
    obtain ⟨i, hi, hgi, rfl, hch⟩ := hrel
    have hblk : w0.heap[w.heap.size]? = some (.cells #[.bool false, .bool true] 4 (0, 0)) := by rw [← hw0]; exact blk_new w _
    have hwr := hch.at hblk (by simp)
    have hwl : w.heap.size < wr.heap.size := blk_lt hwr
    have hc0 : Chg [] w w0 := by rw [← hw0]; exact (Chg.refl _ _).alloc _
    clear hblk hw0
    by_cases hi2 : i = 2
    · subst hi2
      go_wp2_with (go_at_call 16; refine (awake_calls wr).mono ?_; rintro e w7 ⟨rfl, hc7⟩)
      go_ret
      exact ⟨rfl, (hc0.nil_trans hch).nil_trans hc7⟩
    · by_cases hi1 : i = 0
      · subst hi1
        have hcell : wr.cell? ⟨w.heap.size, 0, none⟩ = some (.bool false) := blk_cell hwr 0 rfl
        go_upto_region 6 with (fail)
        go_upto_region 7 with (go_at_call 11; refine (hnew wr).mono ?_; rintro e w1 ⟨b, q, rfl, k1, k2, k3⟩)
        have hL := hir _ _ _ _ k1 k2 k3
        clear k1 k2 k3
        go_wp2_with fail
        go_at_call 17
        refine (cancel_yes w1 b s0 q hL.is hcc).mono ?_
        rintro e w2 ⟨rfl, h2', hc2⟩
        have hL2 := hL.canc h2' hc2
        clear h2' hc2
        go_wp2_with fail
        go_at_call 17
        refine (cancel_no w2 b _ q hL2.is rfl).mono ?_
        rintro e w3 ⟨rfl, hw3⟩
        obtain rfl : w2 = w3 := hw3.symm
        go_upto_region 9 with (fail)
        go_wp2
        go_loopg [11] (bd + 1) (fun g nn wx => ∃ (n : Nat) (s : LS) (q : LV), g = bd + 1 - n ∧ nn = .int .i64 n ∧ LR wr a j r b s q wx ∧ n + s.phi ≤ bd ∧ s.canc = true ∧ s.ends ∧ ((s.out = 0 ∧ s.keen) ∨ s.out = 1))
        case atStart =>
          refine ⟨0, { s0 with canc := true }, q, rfl, rfl, hL2, ?_, rfl, ⟨hke.2.wz, hke.2.once, hke.2.o1, fun h => ⟨(hke.2.o2 h).1, rfl⟩⟩, ?_⟩
          · show 0 + s0.phi ≤ bd
            omega
          · exact .inl ⟨hin.1, hke.1⟩
        case round =>
          obtain ⟨n, s, q3, hgn, rfl, hL1, hph, hcan1, hend, hQ⟩ := hrel
          have hnb : n ≤ bd := by omega
          have d1 : decide (n ≤ bd) = true := by simp [hnb]
          have d2 : decide ((n : Int) ≤ bd) = true := by simp [hnb]
          have HEND := Lib.hid hend
          have HCC := Lib.hid hcan1
          clear hend hcan1
          rename_i wx _
          go_upto_region 12 with (go_at_call 21; refine (hmost _).mono ?_; rintro e w4 ⟨rfl, hw4⟩; subst hw4)
          go_upto_region 13 with (go_at_call 13; refine (moves_calls _ b s q3 hL1.is).mono ?_; rintro e w5 ⟨v, rfl, hr, hc5, _⟩)
          have hL5 := hL1.chg0 hc5
          have hlen : s.moves.length ≤ 260 := by have := moves_length s; have := hL1.is.2.2.2.2.2.ws; omega
          obtain ⟨va, vcap, hve, _⟩ := hr.slice
          by_cases hz : s.moves.length = 0
          · rw [hz] at hve
            subst hve
            have hov := canc_over s HCC.out (List.eq_nil_of_length_eq_zero hz)
            have hO := outcome_calls w5 b s q3 hL5.is
            have hG := gone_calls w5 b s q3 hL5.is
            rw [show s.out = 1 from hQ.resolve_left (fun h => hov.out h.1)] at hO
            rw [show s.gone = a + 2 by rw [(gone_over s).2 hov, hL1.ws]] at hG
            have hcw := hL5.chg
            clear hov hz hr hQ
            go_upto_region 27 with (fail)
            go_wp2_with fail
            go_at_call 22
            refine hO.mono ?_
            rintro e w6 ⟨rfl, hw6⟩
            obtain rfl : w5 = w6 := hw6.symm
            go_wp2_with fail
            go_at_call 23
            refine hG.mono ?_
            rintro e w7 ⟨rfl, hc7⟩
            go_wp2
            go_roundg (3 - (0 + 1))
            case measure => omega
            case rel => exact ⟨0 + 1, by omega, rfl, by go_num, (hch.nil_trans hcw).nil_trans hc7⟩
          · have hpos : 0 < s.moves.length := by omega
            have b3 : ((s.moves.length : Int) == 0) = false := beq_eq_false_iff_ne.2 (by omega)
            clear hve
            obtain ⟨mg, mo, mcap, rfl, _, _⟩ := hr.ptr hpos
            have hO := outcome_calls w5 b s q3 hL5.is
            have HR := Lib.hid hr
            clear hr
            by_cases ho : s.out = 0
            · have hk := hQ.resolve_right (by omega)
              have hf := keen_first s hL5.good.1 (by rw [hL1.ws]; omega) hk.2 HEND.out ho
              have HF := Lib.hid hf
              have HK := Lib.hid hk
              clear hf hk hQ
              rw [ho] at hO
              go_upto_region 17 with (go_at_call 22; refine hO.mono ?_; rintro e w6 ⟨rfl, hw6⟩; obtain rfl : w5 = w6 := hw6.symm)
              go_wp2
              go_loopg [13, 14] 0 (fun g kk ii wy => kk = .int .i64 (0 : Nat) ∧ ii = .int .i64 0 ∧ wy = w5)
              case atStart => exact ⟨rfl, rfl, rfl⟩
              case round =>
                obtain ⟨rfl, rfl, hwy⟩ := hrel
                obtain rfl : w5 = _ := hwy.symm
                have hcan := can_of_mem s s.moves[0] (List.getElem_mem hpos)
                have hinv := inv_make s _ hL5.good.1 hcan
                have HI := Lib.hid hinv
                have HC := Lib.hid hcan
                have HQ := Lib.hid (show ((s.make s.moves[0]).out = 0 ∧ (s.make s.moves[0]).keen) ∨ (s.make s.moves[0]).out = 1 from keen_out (keen_make s _ hL5.good.1 HK.out.2 hcan HF.out.2))
                clear hinv hcan
                go_wp2_with (go_at_call 14; refine (move_ok _ b s q3 (0) hL5.is hL5.good hpos).mono ?_; rintro e w6 ⟨rfl, hM⟩)
                obtain ⟨q', hL6⟩ := hL5.make HC.out hM
                go_roundg (bd + 1 - (n + 1))
                case measure => omega
                case rel => exact ⟨n + 1, _, q', rfl, by go_num, hL6, by have := HI.out.2.1; omega, HI.out.2.2.2.2.2.2.trans HCC.out, ends_make s _ hL5.good.1 HEND.out HC.out, HQ.out⟩
            · have hq1 : s.out = 1 := hQ.resolve_left (fun h => ho h.1)
              clear hQ
              rw [hq1] at hO
              go_upto_region 17 with (go_at_call 22; refine hO.mono ?_; rintro e w6 ⟨rfl, hw6⟩; obtain rfl : w5 = w6 := hw6.symm)
              go_wp2
              have hkl : s.moves.length - 1 < s.moves.length := by omega
              go_loopg [13, 14] 0 (fun g kk ii wy => kk = .int .i64 (s.moves.length - 1 : Nat) ∧ ii = .int .i64 0 ∧ wy = w5)
              case atStart => exact ⟨by go_num, rfl, rfl⟩
              case round =>
                obtain ⟨rfl, rfl, hwy⟩ := hrel
                obtain rfl : w5 = _ := hwy.symm
                skip
                have hcan := can_of_mem s s.moves[s.moves.length - 1] (List.getElem_mem hkl)
                have hinv := inv_make s _ hL5.good.1 hcan
                have HI := Lib.hid hinv
                have HC := Lib.hid hcan
                have HQ := Lib.hid (show ((s.make s.moves[s.moves.length - 1]).out = 0 ∧ (s.make s.moves[s.moves.length - 1]).keen) ∨ (s.make s.moves[s.moves.length - 1]).out = 1 from .inr ((out_stays s _ hcan hL5.good.1 ho).trans hq1))
                clear hinv hcan
                go_wp2_with (go_at_call 14; refine (move_ok _ b s q3 (s.moves.length - 1) hL5.is hL5.good hkl).mono ?_; rintro e w6 ⟨rfl, hM⟩)
                obtain ⟨q', hL6⟩ := hL5.make HC.out hM
                go_roundg (bd + 1 - (n + 1))
                case measure => omega
                case rel => exact ⟨n + 1, _, q', rfl, by go_num, hL6, by have := HI.out.2.1; omega, HI.out.2.2.2.2.2.2.trans HCC.out, ends_make s _ hL5.good.1 HEND.out HC.out, HQ.out⟩
      · obtain rfl : i = 1 := by omega
        have hcell : wr.cell? ⟨w.heap.size, 1, none⟩ = some (.bool true) := blk_cell hwr 1 rfl
        go_upto_region 6 with (fail)
        go_upto_region 7 with (go_at_call 11; refine (hnew wr).mono ?_; rintro e w1 ⟨b, q, rfl, k1, k2, k3⟩)
        have hL := hir _ _ _ _ k1 k2 k3
        clear k1 k2 k3
        go_wp2_with fail
        go_at_call 17
        refine (cancel_yes w1 b s0 q hL.is hcc).mono ?_
        rintro e w2 ⟨rfl, h2', hc2⟩
        have hL2 := hL.canc h2' hc2
        clear h2' hc2
        go_wp2_with fail
        go_at_call 17
        refine (cancel_no w2 b _ q hL2.is rfl).mono ?_
        rintro e w3 ⟨rfl, hw3⟩
        obtain rfl : w2 = w3 := hw3.symm
        go_upto_region 9 with (fail)
        go_wp2
        go_loopg [11] (bd + 1) (fun g nn wx => ∃ (n : Nat) (s : LS) (q : LV), g = bd + 1 - n ∧ nn = .int .i64 n ∧ LR wr a j r b s q wx ∧ n + s.phi ≤ bd ∧ s.canc = true ∧ s.ends ∧ (s.out = 0 ∨ s.out = 2))
        case atStart =>
          refine ⟨0, { s0 with canc := true }, q, rfl, rfl, hL2, ?_, rfl, ⟨hke.2.wz, hke.2.once, hke.2.o1, fun h => ⟨(hke.2.o2 h).1, rfl⟩⟩, ?_⟩
          · show 0 + s0.phi ≤ bd
            omega
          · exact .inl hin.1
        case round =>
          obtain ⟨n, s, q3, hgn, rfl, hL1, hph, hcan1, hend, hQ⟩ := hrel
          have hnb : n ≤ bd := by omega
          have d1 : decide (n ≤ bd) = true := by simp [hnb]
          have d2 : decide ((n : Int) ≤ bd) = true := by simp [hnb]
          have HEND := Lib.hid hend
          have HCC := Lib.hid hcan1
          clear hend hcan1
          rename_i wx _
          go_upto_region 12 with (go_at_call 21; refine (hmost _).mono ?_; rintro e w4 ⟨rfl, hw4⟩; subst hw4)
          go_upto_region 13 with (go_at_call 13; refine (moves_calls _ b s q3 hL1.is).mono ?_; rintro e w5 ⟨v, rfl, hr, hc5, _⟩)
          have hL5 := hL1.chg0 hc5
          have hlen : s.moves.length ≤ 260 := by have := moves_length s; have := hL1.is.2.2.2.2.2.ws; omega
          obtain ⟨va, vcap, hve, _⟩ := hr.slice
          by_cases hz : s.moves.length = 0
          · rw [hz] at hve
            subst hve
            have hov := canc_over s HCC.out (List.eq_nil_of_length_eq_zero hz)
            have hO := outcome_calls w5 b s q3 hL5.is
            have hG := gone_calls w5 b s q3 hL5.is
            rw [show s.out = 2 from hQ.resolve_left hov.out] at hO
            rw [show s.gone = a + 2 by rw [(gone_over s).2 hov, hL1.ws]] at hG
            have hcw := hL5.chg
            clear hov hz hr hQ
            go_upto_region 27 with (fail)
            go_wp2_with fail
            go_at_call 22
            refine hO.mono ?_
            rintro e w6 ⟨rfl, hw6⟩
            obtain rfl : w5 = w6 := hw6.symm
            go_wp2_with fail
            go_at_call 23
            refine hG.mono ?_
            rintro e w7 ⟨rfl, hc7⟩
            go_wp2
            go_roundg (3 - (1 + 1))
            case measure => omega
            case rel => exact ⟨1 + 1, by omega, rfl, by go_num, (hch.nil_trans hcw).nil_trans hc7⟩
          · have hpos : 0 < s.moves.length := by omega
            have b3 : ((s.moves.length : Int) == 0) = false := beq_eq_false_iff_ne.2 (by omega)
            clear hve
            obtain ⟨mg, mo, mcap, rfl, _, _⟩ := hr.ptr hpos
            have hO := outcome_calls w5 b s q3 hL5.is
            have HR := Lib.hid hr
            clear hr
            by_cases ho : s.out = 0
            · rw [ho] at hO
              clear hQ
              have hci := coll_in s HCC.out ho
              have hcell2 := fun (i : Nat) (hi : i < s.moves.length) => And.intro (HR.out.cell (mCells_at s.moves i hi).1) (HR.out.cell (mCells_at s.moves i hi).2.1)
              go_upto_region 17 with (fail)
              go_wp2
              go_loopg [13, 14] (s.moves.length) (fun g kk ii wy => ∃ (x K : Nat), x ≤ s.moves.length ∧ K < s.moves.length ∧ g = s.moves.length - x ∧ ii = .int .i64 x ∧ kk = .int .i64 K ∧ wy = w5 ∧ ((∃ h : K < s.moves.length, s.moves[K].kind = 6 ∧ s.moves[K].who = -1) ∨ ∀ y (h : y < s.moves.length), y < x → ¬ (s.moves[y].kind = 6 ∧ s.moves[y].who = -1)))
              case atStart => exact ⟨0, s.moves.length - 1, by omega, by omega, by omega, rfl, by go_num, rfl, .inr (fun y h hy => by omega)⟩
              case round =>
                obtain ⟨x, K, hx, hK, hgx, rfl, rfl, hwy, hS⟩ := hrel
                obtain rfl : w5 = _ := hwy.symm
                by_cases hlt : x < s.moves.length
                · have hlt2 : x < s.moves.length := hlt
                  have hSx : Hid ((∃ h : K < s.moves.length, s.moves[K].kind = 6 ∧ s.moves[K].who = -1) ∨ ∀ y (h : y < s.moves.length), y < x → ¬ (s.moves[y].kind = 6 ∧ s.moves[y].who = -1)) := hS
                  obtain ⟨y1, y2⟩ := hcell2 x hlt2
                  rw [← Nat.add_assoc] at y2
                  have hmg := World.block_lt_of_cell? _ _ y1
                  have HCI := Lib.hid hci
                  clear hcell2 hS hci
                  have hkd : ∃ kd wd, kd = s.moves[x].kind ∧ wd = s.moves[x].who := ⟨_, _, rfl, rfl⟩
                  obtain ⟨kd, wd, hkd, hwd⟩ := hkd
                  rw [← hkd] at y1
                  rw [← hwd] at y2
                  have HKD := Lib.hid hkd
                  have HWD := Lib.hid hwd
                  clear hkd hwd
                  go_upto_region 20 with (go_at_call 22; refine hO.mono ?_; rintro e w6 ⟨rfl, hw6⟩; obtain rfl : w5 = w6 := hw6.symm)
                  by_cases b6 : kd = 6
                  · subst b6
                    by_cases bw : wd = -1
                    · subst bw
                      go_wp2
                      go_roundg (s.moves.length - (x + 1))
                      case measure => omega
                      case rel => exact ⟨x + 1, x, by omega, hlt2, rfl, by go_num, rfl, rfl, .inl ⟨hlt2, HKD.out.symm, HWD.out.symm⟩⟩
                    · have b2 : (wd == -1) = false := by simp [bw]
                      go_wp2
                      go_roundg (s.moves.length - (x + 1))
                      case measure => omega
                      case rel =>
                        refine ⟨x + 1, K, by omega, hK, rfl, by go_num, rfl, rfl, ?_⟩
                        rcases hSx.out with h | h
                        · exact .inl h
                        · refine .inr (fun y hy hyx hh => ?_)
                          rcases Nat.lt_succ_iff_lt_or_eq.1 hyx with h' | rfl
                          · exact h y hy h' hh
                          · exact bw (HWD.out.trans hh.2)
                  · have b2 : (kd == 6) = false := by simp [b6]
                    go_wp2
                    go_roundg (s.moves.length - (x + 1))
                    case measure => omega
                    case rel =>
                      refine ⟨x + 1, K, by omega, hK, rfl, by go_num, rfl, rfl, ?_⟩
                      rcases hSx.out with h | h
                      · exact .inl h
                      · refine .inr (fun y hy hyx hh => ?_)
                        rcases Nat.lt_succ_iff_lt_or_eq.1 hyx with h' | rfl
                        · exact h y hy h' hh
                        · exact b6 (HKD.out.trans hh.1)
                · obtain rfl : x = s.moves.length := by omega
                  have hfound : s.moves[K].kind = 6 ∧ s.moves[K].who = -1 := by
                    rcases hS with ⟨_, h⟩ | h
                    · exact h
                    · obtain ⟨y, hy, hh⟩ := hci
                      exact absurd hh (h y hy hy)
                  have HFD := Lib.hid hfound
                  clear hfound hS hci hcell2
                  have hcan := can_of_mem s s.moves[K] (List.getElem_mem hK)
                  have hinv := inv_make s _ hL5.good.1 hcan
                  have HI := Lib.hid hinv
                  have HC := Lib.hid hcan
                  have HQ := Lib.hid (show (s.make s.moves[K]).out = 0 ∨ (s.make s.moves[K]).out = 2 from .inr (coll_make s _ HFD.out.1 HFD.out.2))
                  clear hinv hcan
                  go_wp2_with (go_at_call 14; refine (move_ok _ b s q3 (K) hL5.is hL5.good hK).mono ?_; rintro e w6 ⟨rfl, hM⟩)
                  obtain ⟨q', hL6⟩ := hL5.make HC.out hM
                  go_roundg (bd + 1 - (n + 1))
                  case measure => omega
                  case rel => exact ⟨n + 1, _, q', rfl, by go_num, hL6, by have := HI.out.2.1; omega, HI.out.2.2.2.2.2.2.trans HCC.out, ends_make s _ hL5.good.1 HEND.out HC.out, HQ.out⟩
            · have hq1 : s.out = 2 := hQ.resolve_left ho
              clear hQ
              rw [hq1] at hO
              go_upto_region 17 with (fail)
              go_wp2
              have hkl : s.moves.length - 1 < s.moves.length := by omega
              go_loopg [13, 14] 0 (fun g kk ii wy => kk = .int .i64 (s.moves.length - 1 : Nat) ∧ ii = .int .i64 0 ∧ wy = w5)
              case atStart => exact ⟨by go_num, rfl, rfl⟩
              case round =>
                obtain ⟨rfl, rfl, hwy⟩ := hrel
                obtain rfl : w5 = _ := hwy.symm
                go_upto_region 22 with (go_at_call 22; refine hO.mono ?_; rintro e w6 ⟨rfl, hw6⟩; obtain rfl : w5 = w6 := hw6.symm)
                have hcan := can_of_mem s s.moves[s.moves.length - 1] (List.getElem_mem hkl)
                have hinv := inv_make s _ hL5.good.1 hcan
                have HI := Lib.hid hinv
                have HC := Lib.hid hcan
                have HQ := Lib.hid (show (s.make s.moves[s.moves.length - 1]).out = 0 ∨ (s.make s.moves[s.moves.length - 1]).out = 2 from .inr ((out_stays s _ hcan hL5.good.1 ho).trans hq1))
                clear hinv hcan
                go_wp2_with (go_at_call 14; refine (move_ok _ b s q3 (s.moves.length - 1) hL5.is hL5.good hkl).mono ?_; rintro e w6 ⟨rfl, hM⟩)
                obtain ⟨q', hL6⟩ := hL5.make HC.out hM
                go_roundg (bd + 1 - (n + 1))
                case measure => omega
                case rel => exact ⟨n + 1, _, q', rfl, by go_num, hL6, by have := HI.out.2.1; omega, HI.out.2.2.2.2.2.2.trans HCC.out, ends_make s _ hL5.good.1 HEND.out HC.out, HQ.out⟩

theorem choice_no (a j r : Int) (w : World) (h : ¬ saneB a j r) : Calls Try.prog 6 #[.int .i64 a, .int .i64 j, .int .i64 r] w (Res w [] (.bool true)) := by
  go_enter Try.func6, Try.ntmps6
  go_wp2_with (go_at_call 10; refine (sane_no _ _ _ w h).mono ?_; rintro e w1 ⟨rfl, hw1⟩; obtain rfl : w = w1 := hw1.symm)
  go_ret
  exact ⟨rfl, Chg.refl _ _⟩
theorem choice_zero (a r : Int) (w : World) (h : saneB a 0 r) : Calls Try.prog 6 #[.int .i64 a, .int .i64 0, .int .i64 r] w (Res w [] (.bool true)) := by
  go_enter Try.func6, Try.ntmps6
  go_wp2_with (go_at_call 10; refine (sane_yes _ _ _ w h).mono ?_; rintro e w1 ⟨rfl, hw1⟩; obtain rfl : w = w1 := hw1.symm)
  go_ret
  exact ⟨rfl, Chg.refl _ _⟩
theorem choice_walk (w : World) (a : Int) (ha : -9223372036854775808 ≤ a ∧ a < 9223372036854775808) (j : Int) (hj : -9223372036854775808 ≤ j ∧ j < 9223372036854775808) (r : Int) (hr : -9223372036854775808 ≤ r ∧ r < 9223372036854775808) :
    Calls Try.prog 6 #[.int .i64 a, .int .i64 j, .int .i64 r] w (Res w [] (.bool true)) := by
  by_cases h : saneB a j r
  · by_cases hj0 : j = 0
    · subst hj0
      exact choice_zero a r w h
    · obtain ⟨h1, h2, h3, h4, h5, h6⟩ := h
      obtain ⟨a, rfl⟩ : ∃ n : Nat, a = n := ⟨a.toNat, by omega⟩
      obtain ⟨j, rfl⟩ : ∃ n : Nat, j = n := ⟨j.toNat, by omega⟩
      obtain ⟨r, rfl⟩ : ∃ n : Nat, r = n := ⟨r.toNat, by omega⟩
      exact choice_main w a j r (by omega) (by omega) (by omega) (by omega) (by omega)
  · exact choice_no a j r w h
end Go.Proofs.Ytfmdghijbkddpaa

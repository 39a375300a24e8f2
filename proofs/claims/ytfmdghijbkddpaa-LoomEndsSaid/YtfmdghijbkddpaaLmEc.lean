/- LoomEnds: its walk. -/
import Derived.Test.YtfmdghijbkddpaaLmEb
namespace Go.Proofs.Ytfmdghijbkddpaa
open Go.RowKit
set_option linter.unusedVariables false
set_option linter.unusedSimpArgs false

set_option maxRecDepth 100000 in
set_option maxHeartbeats 4000000 in
theorem ends_main (w : World) (a j r : Nat) (h1 : 1 ≤ a) (h2 : a ≤ 64) (h3 : j ≤ 400) (h4 : r ≤ 65536) (v : Value) (ps : List Int) (hv : NsIs .i64 w v ps) (hpl : ps.length ≤ 400) (cn : Int) :
    Calls Try.prog 8 #[.int .i64 a, .int .i64 j, .int .i64 r, v, .int .i64 cn] w (Res w [] (.bool true)) := by
  have hnew := new_yes a j r w h1 h2 (by omega) h4
  have hmost := fun w => most_yes a j r w h1 h2 (by omega) h4
  have hke : (LS.init a j r).keen ∧ (LS.init a j r).ends := keen_init a j r
  have hin : (LS.init a j r).canc = false ∧ (LS.init a j r).made = 0 ∧ (LS.init a j r).phi ≤ a + 1 + (if r = 0 then 2 else 3) * j := init_phi' a j r
  have hbb : a + 1 + (if r = 0 then 2 else 3) * j ≤ 1265 := by split <;> omega
  have hir : ∀ w' b q, LmIs w' b (LS.init a j r) q → Chg [] w w' → (∀ k ∈ q.foot b, w.heap.size ≤ k) → LR w a j r b (LS.init a j r) q w' := fun w' b q => LR.init h1 h2 (by omega) h4
  generalize LS.init a j r = s0 at *
  generalize hbd : a + 1 + (if r = 0 then 2 else 3) * j = bd at *
  have hrun : s0.run bd 0 ((0 : Nat) > (0 : Nat)) := ⟨hin.2.1, by omega, hke.2, fun _ => hke.1, fun h => by rw [hin.1] at h; cases h⟩
  have HBD := Lib.hid hbd
  clear hbd hke
  obtain ⟨hW, pa, pcap, rfl, hpr⟩ := hv
  have hcf := hin.1
  go_enter Try.func8, Try.ntmps8
  go_upto_region 3 with (go_at_call 10; refine (sane_yes _ _ _ w ⟨by omega, by omega, by omega, by omega, by omega, by omega⟩).mono ?_; rintro e w1 ⟨rfl, hw1⟩; obtain rfl : w = w1 := hw1.symm)
  go_upto_region 6 with (go_at_call 11; refine hnew.mono ?_; rintro e w1 ⟨b, q, rfl, k1, k2, k3⟩)
  have hL := hir _ _ _ k1 k2 k3
  clear k1 k2 k3 hir hnew
  go_upto_region 7 with (go_at_call 21; refine (hmost _).mono ?_; rintro e w4 ⟨rfl, hw4⟩; obtain rfl : w1 = w4 := hw4.symm)
  go_wp2
  go_loopg [13, 15] 2000 (fun g tt cc wr => ∃ (t : Nat) (s : LS) (q : LV), g = 2000 - t ∧ tt = .int .i64 t ∧ cc = .bool s.canc ∧ LR w a j r b s q wr ∧ s.run bd t (cn < t))
  case atStart => exact ⟨0, s0, q, rfl, rfl, by rw [hcf], hL, ⟨hrun.made, hrun.phi, hrun.ends, hrun.keen, fun h => by rw [hcf] at h; cases h⟩⟩
  case round =>
    obtain ⟨t, s, q3, hgt, rfl, rfl, hL1, ht⟩ := hrel
    have htb : t ≤ bd := by have := ht.phi; omega
    go_upto_if 50 with (fail)
    go_cut [15] (fun cc wx => ∃ (s' : LS) (q' : LV), cc = .bool s'.canc ∧ LR w a j r b s' q' wx ∧ s'.run bd t (cn < (t + 1 : Nat)))
    case first =>
      by_cases htc : (t : Int) = cn
      · have b1 : ((t : Int) == cn) = true := by simp [htc]
        have HTC := Lib.hid htc
        have hc : s.canc = false := by
          cases hc : s.canc with
          | false => rfl
          | true => have := ht.canc hc; omega
        clear htc
        go_wp2_with (go_at_call 17; refine (cancel_yes _ b s q3 hL1.is hc).mono ?_; rintro e w4 ⟨rfl, h4, hc4⟩)
        go_meet
        exact ⟨{ s with canc := true }, q3, rfl, hL1.canc h4 hc4, runs_canc s bd t _ _ ht (by have := HTC.out; omega)⟩
      · have b1 : ((t : Int) == cn) = false := by simp [htc]
        go_wp2
        go_meet
        exact ⟨s, q3, rfl, hL1, ⟨ht.made, ht.phi, ht.ends, ht.keen, fun h => by have := ht.canc h; omega⟩⟩
    case rest =>
    clear hL1 ht
    obtain ⟨s', q', rfl, hL', ht'⟩ := hcut
    go_upto_region 13 with (go_at_call 13; refine (moves_calls _ b s' q' hL'.is).mono ?_; rintro e w5 ⟨v, rfl, hr, hc5, _⟩)
    have hL5' := hL'.chg0 hc5
    have hlen : s'.moves.length ≤ 260 := by have := moves_length s'; have := hL5'.is.2.2.2.2.2.ws; omega
    obtain ⟨va, vcap, hve, _⟩ := hr.slice
    have hG := gone_calls w5 b s' q' hL5'.is
    have HRUN := Lib.hid ht'
    clear ht'
    by_cases hz : s'.moves.length = 0
    · rw [hz] at hve
      subst hve
      obtain ⟨hov, hfin⟩ := runs_over s' bd t _ hL5'.good.1 (by rw [hL5'.ws]; omega) (by rw [hL5'.ws, hL5'.room, hL5'.jobs]; exact HBD.out.symm) HRUN.out (List.eq_nil_of_length_eq_zero hz)
      rw [show s'.gone = a + 2 by rw [(gone_over s').2 hov, hL5'.ws]] at hG
      clear hov hz hr
      go_upto_region 15 with (go_at_call 23; refine hG.mono ?_; rintro e w5' ⟨rfl, hc5'⟩)
      have hL5 := hL5'.chg0 hc5'
      clear hG hL' hL5'
      clear hc5' hc5
      generalize w5' = w5 at *
      rcases hfin with ⟨hcn, htbd, hout, hlen2⟩ | ⟨hcn, hout, hlen2⟩ | ⟨hcn, hout, hlen2⟩
      · subst htbd
        have hO := fun w' (hc : Chg [] w5 w') => outcome_calls w' b s' q' (hL5.chg0 hc).is
        rw [hout] at hO
        have hmks := make_bools j h3
        have hz0 := met_zero
        have hcw := hL5.chg
        have hans := answers_calls w5 b s' q' hL5.is
        have hone := ans_once s' hL5.good.1 HRUN.out.ends
        have hjs := hL5.jobs
        rw [hjs] at hone hlen2
        have hal : s'.ans.length ≤ 65536 := hL5.is.2.2.2.2.2.ans.1
        generalize hmz : madeCells #[.bool false] j = mz at *
        have hz1 : ∀ w : World, MetIs (w.alloc (.cells mz 4)) w.heap.size j [] := fun w => by rw [← hmz]; exact met_zero w j
        clear hL5 hz0 hmz
        generalize s'.ans = an at *
        have HONE := Lib.hid hone
        clear hone
        rw [hcn]
        have HL2 := Lib.hid hlen2
        clear hlen2
        go_upto_region 28 with (go_at_call 22; refine (hO w5 (Chg.refl _ _)).mono ?_; rintro e wq ⟨rfl, hwq⟩; obtain rfl : w5 = wq := hwq.symm)
        go_upto_region 29 with (go_at_call 28; refine hans.mono ?_; rintro e w6 ⟨v', rfl, hrow, hc6, hfr⟩)
        obtain ⟨ga, gcap, hve, _⟩ := hrow.slice
        subst hve
        have hmet0 := hz1 w6
        have hsz6 := hc6.size
        have hrlt := hrow.lt
        have hc7 : Chg [] w6 (w6.alloc (.cells mz 4)) := (Chg.refl _ _).alloc _
        have hrow7 := hrow.chg0 hc7
        have hmks6 := hmks w6
        go_upto_region 30 with (fail)
        go_wp2
        generalize hmb : w6.heap.size = mb at *
        generalize World.alloc w6 _ = w7 at *
        clear hmks hmks6 hz1 hans hrow hmb
        go_loopg [20] an.length (fun g ii wx => ∃ i : Nat, i ≤ an.length ∧ g = an.length - i ∧ ii = .int .i64 i ∧ MetIs wx mb j (an.take i) ∧ Chg [mb] w7 wx)
        case atStart => exact ⟨0, by omega, by omega, rfl, hmet0, Chg.refl _ _⟩
        case round =>
          obtain ⟨i, hi, hgi, rfl, hmet, hcx⟩ := hrel
          have hrx := hrow7.chg hcx (fun k hk hm => by have := hrlt k hk; simp at hm; omega)
          by_cases hlt : i < an.length
          · have hlt2 : i < an.length := hlt
            obtain ⟨gb, go, gc, hve, _, _⟩ := hrx.ptr (by omega)
            simp only [Value.slice.injEq, true_and] at hve
            obtain ⟨rfl, rfl⟩ := hve
            have y := hrx.cell (j := i) (u := .int .i64 an[i]) (by unfold iCells; rw [List.getElem?_map, List.getElem?_eq_getElem hlt2]; rfl)
            have hyl := World.block_lt_of_cell? _ _ y
            have hx := HONE.out.2 an[i] (List.getElem_mem hlt2)
            have hnm : decide (an[i] ∈ an.take i) = false := by
              have := HONE.out.1
              rw [← List.take_append_drop i an, List.nodup_append] at this
              have hd : an[i] ∈ an.drop i := by
                rw [List.mem_drop_iff_getElem]
                exact ⟨0, by omega, by simp⟩
              exact decide_eq_false (fun hm => this.2.2 _ hm _ hd rfl)
            have hmet2 := hmet.set an[i]
            have htk : an.take (i + 1) = an.take i ++ [an[i]] := List.take_succ_eq_append_getElem hlt2
            rw [← htk] at hmet2
            obtain ⟨cs, m1, m2, m3⟩ := hmet
            have m4 := blk_cell m1 an[i] (m3 an[i] hx)
            have mfz := blk_frozen m1 an[i]
            have hml := blk_lt m1
            rw [hnm] at m4
            have hx9 : an[i] < 65536 := by omega
            clear hnm m3 htk
            generalize an[i] = x at *
            go_wp2
            go_roundg (an.length - (i + 1))
            case measure => omega
            case rel => exact ⟨i + 1, by omega, rfl, by go_num, hmet2, hcx.setCell (p := ⟨mb, x, none⟩) (by simp) _⟩
          · obtain rfl : i = an.length := by omega
            have hc5x := (hc6.nil_trans hc7).trans hcx (fun x hx => .inr (by simp at hx; omega))
            have b1 : decide (an.length = j) = true := by simp [HL2.out]
            have b2 : ((an.length : Int) == j) = true := by simp [HL2.out]
            go_upto_region 37 with (go_at_call 22; refine (hO _ hc5x).mono ?_; rintro e wq ⟨rfl, hwq⟩; subst hwq)
            go_wp2_with (go_at_call 16; refine (awake_calls _).mono ?_; rintro e w9 ⟨rfl, hc9⟩)
            go_ret
            exact ⟨rfl, (hcw.nil_trans hc5x).nil_trans hc9⟩
      · skip
        have hO := fun w' (hc : Chg [] w5 w') => outcome_calls w' b s' q' (hL5.chg0 hc).is
        rw [hout] at hO
        have hmks := make_bools j h3
        have hz0 := met_zero
        have hcw := hL5.chg
        have hans := answers_calls w5 b s' q' hL5.is
        have hone := ans_once s' hL5.good.1 HRUN.out.ends
        have hjs := hL5.jobs
        rw [hjs] at hone hlen2
        have hal : s'.ans.length ≤ 65536 := hL5.is.2.2.2.2.2.ans.1
        generalize hmz : madeCells #[.bool false] j = mz at *
        have hz1 : ∀ w : World, MetIs (w.alloc (.cells mz 4)) w.heap.size j [] := fun w => by rw [← hmz]; exact met_zero w j
        clear hL5 hz0 hmz
        generalize s'.ans = an at *
        have HONE := Lib.hid hone
        clear hone
        rw [hcn]
        have HL2 := Lib.hid hlen2
        clear hlen2
        go_upto_region 28 with (fail)
        go_upto_region 29 with (go_at_call 28; refine hans.mono ?_; rintro e w6 ⟨v', rfl, hrow, hc6, hfr⟩)
        obtain ⟨ga, gcap, hve, _⟩ := hrow.slice
        subst hve
        have hmet0 := hz1 w6
        have hsz6 := hc6.size
        have hrlt := hrow.lt
        have hc7 : Chg [] w6 (w6.alloc (.cells mz 4)) := (Chg.refl _ _).alloc _
        have hrow7 := hrow.chg0 hc7
        have hmks6 := hmks w6
        go_upto_region 30 with (fail)
        go_wp2
        generalize hmb : w6.heap.size = mb at *
        generalize World.alloc w6 _ = w7 at *
        clear hmks hmks6 hz1 hans hrow hmb
        go_loopg [20] an.length (fun g ii wx => ∃ i : Nat, i ≤ an.length ∧ g = an.length - i ∧ ii = .int .i64 i ∧ MetIs wx mb j (an.take i) ∧ Chg [mb] w7 wx)
        case atStart => exact ⟨0, by omega, by omega, rfl, hmet0, Chg.refl _ _⟩
        case round =>
          obtain ⟨i, hi, hgi, rfl, hmet, hcx⟩ := hrel
          have hrx := hrow7.chg hcx (fun k hk hm => by have := hrlt k hk; simp at hm; omega)
          by_cases hlt : i < an.length
          · have hlt2 : i < an.length := hlt
            obtain ⟨gb, go, gc, hve, _, _⟩ := hrx.ptr (by omega)
            simp only [Value.slice.injEq, true_and] at hve
            obtain ⟨rfl, rfl⟩ := hve
            have y := hrx.cell (j := i) (u := .int .i64 an[i]) (by unfold iCells; rw [List.getElem?_map, List.getElem?_eq_getElem hlt2]; rfl)
            have hyl := World.block_lt_of_cell? _ _ y
            have hx := HONE.out.2 an[i] (List.getElem_mem hlt2)
            have hnm : decide (an[i] ∈ an.take i) = false := by
              have := HONE.out.1
              rw [← List.take_append_drop i an, List.nodup_append] at this
              have hd : an[i] ∈ an.drop i := by
                rw [List.mem_drop_iff_getElem]
                exact ⟨0, by omega, by simp⟩
              exact decide_eq_false (fun hm => this.2.2 _ hm _ hd rfl)
            have hmet2 := hmet.set an[i]
            have htk : an.take (i + 1) = an.take i ++ [an[i]] := List.take_succ_eq_append_getElem hlt2
            rw [← htk] at hmet2
            obtain ⟨cs, m1, m2, m3⟩ := hmet
            have m4 := blk_cell m1 an[i] (m3 an[i] hx)
            have mfz := blk_frozen m1 an[i]
            have hml := blk_lt m1
            rw [hnm] at m4
            have hx9 : an[i] < 65536 := by omega
            clear hnm m3 htk
            generalize an[i] = x at *
            go_wp2
            go_roundg (an.length - (i + 1))
            case measure => omega
            case rel => exact ⟨i + 1, by omega, rfl, by go_num, hmet2, hcx.setCell (p := ⟨mb, x, none⟩) (by simp) _⟩
          · obtain rfl : i = an.length := by omega
            have hc5x := (hc6.nil_trans hc7).trans hcx (fun x hx => .inr (by simp at hx; omega))
            have b1 : decide (an.length = j) = true := by simp [HL2.out]
            have b2 : ((an.length : Int) == j) = true := by simp [HL2.out]
            go_upto_region 37 with (go_at_call 22; refine (hO _ hc5x).mono ?_; rintro e wq ⟨rfl, hwq⟩; subst hwq)
            go_wp2_with (go_at_call 16; refine (awake_calls _).mono ?_; rintro e w9 ⟨rfl, hc9⟩)
            go_ret
            exact ⟨rfl, (hcw.nil_trans hc5x).nil_trans hc9⟩
      · skip
        have hO := fun w' (hc : Chg [] w5 w') => outcome_calls w' b s' q' (hL5.chg0 hc).is
        rw [hout] at hO
        have hmks := make_bools j h3
        have hz0 := met_zero
        have hcw := hL5.chg
        have hans := answers_calls w5 b s' q' hL5.is
        have hone := ans_once s' hL5.good.1 HRUN.out.ends
        have hjs := hL5.jobs
        rw [hjs] at hone hlen2
        have hal : s'.ans.length ≤ 65536 := hL5.is.2.2.2.2.2.ans.1
        generalize hmz : madeCells #[.bool false] j = mz at *
        have hz1 : ∀ w : World, MetIs (w.alloc (.cells mz 4)) w.heap.size j [] := fun w => by rw [← hmz]; exact met_zero w j
        clear hL5 hz0 hmz
        generalize s'.ans = an at *
        have HONE := Lib.hid hone
        clear hone
        rw [hcn]
        have HL2 := Lib.hid hlen2
        clear hlen2
        go_upto_region 28 with (fail)
        go_upto_region 29 with (go_at_call 28; refine hans.mono ?_; rintro e w6 ⟨v', rfl, hrow, hc6, hfr⟩)
        obtain ⟨ga, gcap, hve, _⟩ := hrow.slice
        subst hve
        have hmet0 := hz1 w6
        have hsz6 := hc6.size
        have hrlt := hrow.lt
        have hc7 : Chg [] w6 (w6.alloc (.cells mz 4)) := (Chg.refl _ _).alloc _
        have hrow7 := hrow.chg0 hc7
        have hmks6 := hmks w6
        go_upto_region 30 with (fail)
        go_wp2
        generalize hmb : w6.heap.size = mb at *
        generalize World.alloc w6 _ = w7 at *
        clear hmks hmks6 hz1 hans hrow hmb
        go_loopg [20] an.length (fun g ii wx => ∃ i : Nat, i ≤ an.length ∧ g = an.length - i ∧ ii = .int .i64 i ∧ MetIs wx mb j (an.take i) ∧ Chg [mb] w7 wx)
        case atStart => exact ⟨0, by omega, by omega, rfl, hmet0, Chg.refl _ _⟩
        case round =>
          obtain ⟨i, hi, hgi, rfl, hmet, hcx⟩ := hrel
          have hrx := hrow7.chg hcx (fun k hk hm => by have := hrlt k hk; simp at hm; omega)
          by_cases hlt : i < an.length
          · have hlt2 : i < an.length := hlt
            obtain ⟨gb, go, gc, hve, _, _⟩ := hrx.ptr (by omega)
            simp only [Value.slice.injEq, true_and] at hve
            obtain ⟨rfl, rfl⟩ := hve
            have y := hrx.cell (j := i) (u := .int .i64 an[i]) (by unfold iCells; rw [List.getElem?_map, List.getElem?_eq_getElem hlt2]; rfl)
            have hyl := World.block_lt_of_cell? _ _ y
            have hx := HONE.out.2 an[i] (List.getElem_mem hlt2)
            have hnm : decide (an[i] ∈ an.take i) = false := by
              have := HONE.out.1
              rw [← List.take_append_drop i an, List.nodup_append] at this
              have hd : an[i] ∈ an.drop i := by
                rw [List.mem_drop_iff_getElem]
                exact ⟨0, by omega, by simp⟩
              exact decide_eq_false (fun hm => this.2.2 _ hm _ hd rfl)
            have hmet2 := hmet.set an[i]
            have htk : an.take (i + 1) = an.take i ++ [an[i]] := List.take_succ_eq_append_getElem hlt2
            rw [← htk] at hmet2
            obtain ⟨cs, m1, m2, m3⟩ := hmet
            have m4 := blk_cell m1 an[i] (m3 an[i] hx)
            have mfz := blk_frozen m1 an[i]
            have hml := blk_lt m1
            rw [hnm] at m4
            have hx9 : an[i] < 65536 := by omega
            clear hnm m3 htk
            generalize an[i] = x at *
            go_wp2
            go_roundg (an.length - (i + 1))
            case measure => omega
            case rel => exact ⟨i + 1, by omega, rfl, by go_num, hmet2, hcx.setCell (p := ⟨mb, x, none⟩) (by simp) _⟩
          · obtain rfl : i = an.length := by omega
            have hc5x := (hc6.nil_trans hc7).trans hcx (fun x hx => .inr (by simp at hx; omega))
            have hlen2 := HL2.out
            have b1 : decide (an.length < j) = true := by simp [hlen2]
            go_upto_region 38 with (go_at_call 22; refine (hO _ hc5x).mono ?_; rintro e wq ⟨rfl, hwq⟩; subst hwq)
            go_wp2_with fail
            go_at_call 22
            refine (hO _ hc5x).mono ?_
            rintro e wq ⟨rfl, hwq⟩
            subst hwq
            go_wp2_with (go_at_call 16; refine (awake_calls _).mono ?_; rintro e w9 ⟨rfl, hc9⟩)
            go_ret
            exact ⟨rfl, (hcw.nil_trans hc5x).nil_trans hc9⟩
    · have hpos : 0 < s'.moves.length := by omega
      have hng : ¬ s'.gone = a + 2 := by
        intro hg
        rw [← hL5'.ws, gone_over s'] at hg
        rw [over_moves s' hg] at hpos
        simp at hpos
      have hgl : s'.gone ≤ 66 := by
        have : s'.left ≤ s'.ws.length := List.length_filter_le _ _
        have := hL5'.ws
        unfold LS.gone
        split <;> split <;> omega
      clear hve
      obtain ⟨mg, mo, mcap, rfl, _, _⟩ := hr.ptr hpos
      clear hr
      generalize s'.gone = gn at *
      have b2 : ((gn : Int) == a + 2) = false := beq_eq_false_iff_ne.2 (by omega)
      have b3 : ((s'.moves.length : Int) == 0) = false := beq_eq_false_iff_ne.2 (by omega)
      go_upto_region 15 with (go_at_call 23; refine hG.mono ?_; rintro e w5' ⟨rfl, hc5'⟩)
      have hL5 := hL5'.chg0 hc5'
      clear hG hL' hL5'
      go_upto_if 71 with (fail)
      go_cut [17] (fun kk wx => ∃ k : Nat, k < s'.moves.length ∧ kk = .int .i64 k ∧ wx = w5')
      case first =>
        by_cases hpk : t < ps.length
        · have d1 : decide (t < ps.length) = true := by simp [hpk]
          obtain ⟨pb, po, rfl, hpb, hpc⟩ : ∃ pb po, pa = some ⟨pb, po, none⟩ ∧ pb < w.heap.size ∧ ∀ i (hi : i < ps.length), w.cell? ⟨pb, po + i, none⟩ = some (.int .i64 ps[i]) := by
            rcases hpr with e | e
            · rw [e] at hpk; simp at hpk
            · exact e
          have hpt : w5'.cell? ⟨pb, po + t, none⟩ = some (.int .i64 ps[t]) := by
            rw [hL5.chg.cell (p := ⟨pb, po + t, none⟩) hpb (by simp)]
            exact hpc t hpk
          have hpw := wf_i64 (hW ps[t] (List.getElem_mem hpk))
          have hpl5 := World.block_lt_of_cell? _ _ hpt
          clear hpc
          generalize ps[t] = pk at *
          have hm1 : pk.tmod s'.moves.length < s'.moves.length := Int.tmod_lt_of_pos _ (by omega)
          have hm2 : -(s'.moves.length : Int) < pk.tmod s'.moves.length := Int.lt_tmod_of_pos _ (by omega)
          by_cases hneg : pk.tmod s'.moves.length < 0
          · go_wp2
            go_meet
            exact ⟨(-(pk.tmod s'.moves.length)).toNat, by omega, by rw [Int.toNat_of_nonneg (by omega)], rfl⟩
          · go_wp2
            go_meet
            exact ⟨(pk.tmod s'.moves.length).toNat, by omega, by rw [Int.toNat_of_nonneg (by omega)], rfl⟩
        · have d1 : decide (t < ps.length) = false := by simp [hpk]
          go_wp2
          go_meet
          exact ⟨0, hpos, rfl, rfl⟩
      case rest =>
      obtain ⟨k, hk, rfl, hwe⟩ := hcut
      obtain rfl : w5' = wc := hwe.symm
      have hcan := can_of_mem s' s'.moves[k] (List.getElem_mem hk)
      have hr2 := runs_make s' bd t _ _ hL5.good.1 HRUN.out hcan
      have hmk := move_ok w5' b s' q' k hL5.is hL5.good hk
      have hLm := fun (w7 : World) (hM : MakeP w5' b q' (s'.make s'.moves[k]) w7) => hL5.make hcan hM
      have hi2 := inv_make s' _ hL5.good.1 hcan
      have hcc2 : (s'.make s'.moves[k]).canc = s'.canc := hi2.2.2.2.2.2.2
      have t1 : (s'.make s'.moves[k]).top ≤ a ∧ (s'.make s'.moves[k]).top ≤ j ∧ (s'.make s'.moves[k]).gauge ≤ (s'.make s'.moves[k]).top := by
        have h1 := hi2.1.top
        have h2 := hi2.2.2.2.1
        have h3 := hi2.2.2.2.2.2.1
        have h4 := hL5.ws
        have h5 := hL5.jobs
        omega
      have htb2 : t + 1 ≤ bd := by have := hr2.phi; omega
      generalize s'.make s'.moves[k] = s2 at *
      clear hi2
      have HR2 := Lib.hid hr2
      have HC2 := Lib.hid hcc2
      clear hr2 hcc2
      go_wp2_with fail
      go_at_call 14
      refine hmk.mono ?_
      rintro e w6 ⟨rfl, hM⟩
      obtain ⟨q7, hL6⟩ := hLm _ hM
      have hGg := fun (w' : World) (hc : Chg [] w6 w') => gauge_calls w' b s2 q7 (hL6.chg0 hc).is
      have hTp := fun (w' : World) (hc : Chg [] w6 w') => top_calls w' b s2 q7 (hL6.chg0 hc).is
      have hMd := fun (w' : World) (hc : Chg [] w6 w') => made_calls w' b s2 q7 (hL6.chg0 hc).is
      rw [HR2.out.made, show ((t + 1 : Nat) : Int) = (t : Int) + 1 by omega] at hMd
      generalize s2.gauge = gg at *
      generalize s2.top = tp at *
      obtain ⟨t1, t2, t3⟩ := t1
      have n1 : ¬ a < gg := by omega
      have n2 : ¬ j < gg := by omega
      have n3 : ¬ tp < gg := by omega
      have n4 : ¬ a < tp := by omega
      have n5 : ¬ j < tp := by omega
      have n6 : ¬ bd < t + 1 := by omega
      have e1 : decide (a < gg) = false := by simp [n1]
      have e2 : decide (j < gg) = false := by simp [n2]
      have e3 : decide (tp < gg) = false := by simp [n3]
      have e4 : decide (a < tp) = false := by simp [n4]
      have e5 : decide (j < tp) = false := by simp [n5]
      have e6 : decide ((bd : Int) < t + 1) = false := by simp; omega
      go_wp2_with fail
      go_at_call 12
      refine (hGg w6 (Chg.refl _ _)).mono ?_
      rintro e x1 ⟨rfl, c1⟩
      go_wp2_with fail
      go_at_call 12
      refine (hGg x1 c1).mono ?_
      rintro e x2 ⟨rfl, c2'⟩
      have c2 := c1.nil_trans c2'
      clear c2'
      go_wp2_with fail
      go_at_call 12
      refine (hGg x2 c2).mono ?_
      rintro e x3 ⟨rfl, c3'⟩
      have c3 := c2.nil_trans c3'
      clear c3'
      go_wp2_with fail
      go_at_call 15
      refine (hTp x3 c3).mono ?_
      rintro e x ⟨rfl, hx⟩
      obtain rfl : x3 = x := hx.symm
      clear hx
      go_wp2_with fail
      go_at_call 12
      refine (hGg x3 c3).mono ?_
      rintro e x4 ⟨rfl, c4'⟩
      have c4 := c3.nil_trans c4'
      clear c4'
      go_wp2_with fail
      go_at_call 15
      refine (hTp x4 c4).mono ?_
      rintro e x ⟨rfl, hx⟩
      obtain rfl : x4 = x := hx.symm
      clear hx
      go_wp2_with fail
      go_at_call 15
      refine (hTp x4 c4).mono ?_
      rintro e x ⟨rfl, hx⟩
      obtain rfl : x4 = x := hx.symm
      clear hx
      go_wp2_with fail
      go_at_call 27
      refine (hMd x4 c4).mono ?_
      rintro e x ⟨rfl, hx⟩
      obtain rfl : x4 = x := hx.symm
      clear hx
      go_wp2
      go_roundg (2000 - (t + 1))
      case measure => omega
      case rel => exact ⟨t + 1, s2, q7, rfl, by go_num, by rw [HC2.out], hL6.chg0 c4, HR2.out⟩
set_option maxRecDepth 100000 in
theorem ends_no (a j r : Int) (w : World) (v : Value) (ps : List Int) (hv : NsIs .i64 w v ps) (cn : Int) (h : ¬ saneB a j r) : Calls Try.prog 8 #[.int .i64 a, .int .i64 j, .int .i64 r, v, .int .i64 cn] w (Res w [] (.bool true)) := by
  obtain ⟨hW, pa, pcap, rfl, hpr⟩ := hv
  go_enter Try.func8, Try.ntmps8
  go_wp2_with (go_at_call 10; refine (sane_no _ _ _ w h).mono ?_; rintro e w1 ⟨rfl, hw1⟩; obtain rfl : w = w1 := hw1.symm)
  go_ret
  exact ⟨rfl, Chg.refl _ _⟩
set_option maxRecDepth 100000 in
theorem ends_long (a j r : Int) (w : World) (v : Value) (ps : List Int) (hv : NsIs .i64 w v ps) (cn : Int) (h : saneB a j r) (hl : 400 < ps.length) : Calls Try.prog 8 #[.int .i64 a, .int .i64 j, .int .i64 r, v, .int .i64 cn] w (Res w [] (.bool true)) := by
  obtain ⟨hW, pa, pcap, rfl, hpr⟩ := hv
  have d1 : decide ((400 : Int) < ps.length) = true := by simp; omega
  go_enter Try.func8, Try.ntmps8
  go_wp2_with (go_at_call 10; refine (sane_yes _ _ _ w h).mono ?_; rintro e w1 ⟨rfl, hw1⟩; obtain rfl : w = w1 := hw1.symm)
  go_ret
  exact ⟨rfl, Chg.refl _ _⟩
theorem ends_walk (w : World) (a : Int) (ha : -9223372036854775808 ≤ a ∧ a < 9223372036854775808) (j : Int) (hj : -9223372036854775808 ≤ j ∧ j < 9223372036854775808) (r : Int) (hr : -9223372036854775808 ≤ r ∧ r < 9223372036854775808) (v : Value) (ps : List Int) (hv : NsIs .i64 w v ps) (cn : Int) (hcn : -9223372036854775808 ≤ cn ∧ cn < 9223372036854775808) :
    Calls Try.prog 8 #[.int .i64 a, .int .i64 j, .int .i64 r, v, .int .i64 cn] w (Res w [] (.bool true)) := by
  by_cases h : saneB a j r
  · by_cases hl : ps.length ≤ 400
    · obtain ⟨h1, h2, h3, h4, h5, h6⟩ := h
      obtain ⟨a, rfl⟩ : ∃ n : Nat, a = n := ⟨a.toNat, by omega⟩
      obtain ⟨j, rfl⟩ : ∃ n : Nat, j = n := ⟨j.toNat, by omega⟩
      obtain ⟨r, rfl⟩ : ∃ n : Nat, r = n := ⟨r.toNat, by omega⟩
      exact ends_main w a j r (by omega) (by omega) (by omega) (by omega) v ps hv hl cn
    · exact ends_long a j r w v ps hv cn h (by omega)
  · exact ends_no a j r w v ps hv cn h
end Go.Proofs.Ytfmdghijbkddpaa

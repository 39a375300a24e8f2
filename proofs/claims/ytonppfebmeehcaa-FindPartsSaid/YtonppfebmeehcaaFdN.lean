/- FindParts walked. -/
import Derived.Test.YtonppfebmeehcaaFdM
namespace Go.Proofs.Ytonppfebmeehcaa
open Go.RowKit
set_option linter.unusedVariables false
set_option linter.unusedSimpArgs false

set_option maxRecDepth 100000 in
set_option maxHeartbeats 20000000 in
theorem parts_main (w : World) (lv : Value) (ls : List HK) (hv : HsIs w lv (ls.map (·.1))) (hlen : ls.length ≤ 200) (n : Nat) (hn : n < 18446744073709551616) :
    Calls Try.prog 4 #[lv, .int .u64 n] w (Res w [] (.bool true)) := by
  obtain ⟨_, a, cap, rfl, hr⟩ := hv
  rw [List.length_map]
  obtain ⟨w0, rfl⟩ : ∃ w0 : World, w0 = w := ⟨_, rfl⟩
  have hrow : ∀ i (hi : i < ls.length), ∃ pb po, a = some ⟨pb, po, none⟩ ∧ pb < w0.heap.size ∧ ∀ W, Chg [] w0 W → rng? W pb (po + i * 32) 32 = some ls[i].1 := by
    intro i hi
    have him : i < (ls.map (·.1)).length := by simpa using hi
    rcases hr with hr | ⟨pb, po, rfl, hpb, hr⟩
    · rw [hr] at him; simp at him
    · refine ⟨pb, po, rfl, hpb, fun W hW => ?_⟩
      have := rng?_chg hW (hr i him) (by omega) (by simp)
      simpa using this
  have HR := Lib.hid hrow
  have hgt : decide ((200 : Int) < (ls.length : Int)) = false := decide_eq_false (by omega)
  have hmk := fun W => make_ints ls.length (by omega) W
  clear hr hrow
  go_enter Try.func4, Try.ntmps4
  go_wp2_with (go_at_call 9; refine (newL _).mono ?_; rintro e w1 ⟨b, rfl, hF⟩)
  go_loopg [6] ls.length (fun g ii wx => ∃ k, k ≤ ls.length ∧ g = ls.length - k ∧ ii = .int .i64 k ∧ FdL [] w0 wx b (ls.take k))
  case atStart => exact ⟨0, by omega, by omega, rfl, by rw [List.take_zero]; exact hF⟩
  case round =>
    clear hF
    obtain ⟨k, hkl, hg, rfl, hT⟩ := hrel
    by_cases hlt : k < ls.length
    · obtain ⟨pb, po, rfl, hpb, hrw⟩ := HR.out k hlt
      have hrk := hrw _ hT.out
      have hpr : pb < wr.heap.size := Nat.lt_of_lt_of_le hpb hT.out.size
      have htl : (ls.take k).length = k := by rw [List.length_take]; omega
      have hadd := hT.add (by omega) ls[k]
      have htk : ls.take k ++ [ls[k]] = ls.take (k + 1) := (List.take_succ_eq_append_getElem hlt).symm
      unfold AddL at hadd
      rw [htl, htk] at hadd
      have HA := Lib.hid hadd
      have s1 := ls[k].2.1
      have s2 := ls[k].2.one
      have HG := Lib.hid hg
      clear hadd htk htl hT hg hrw
      generalize ls[k].1 = x at *
      go_wp2_with (go_at_call 10; refine HA.out.mono ?_; rintro e w2 ⟨rfl, h2⟩)
      go_roundg (ls.length - (k + 1))
      case measure => rw [HG.out]; omega
      case rel => exact ⟨k + 1, by omega, rfl, by go_num, h2⟩
    · obtain rfl : k = ls.length := by omega
      rw [List.take_length] at hT
      have hmkr := hmk wr
      have hcA : Chg [] wr (wr.alloc (.cells (madeCells #[.int .i64 0] ls.length) 3)) := (Chg.refl _ _).alloc _
      have hmet := metN_zero wr ls.length
      obtain ⟨f, hfo, hfl⟩ := hT
      have hf3 := hfo.is.chg0 hcA
      have hmf : wr.heap.size ∉ f.foot b := fun h => by have := hfo.is.lt _ h; omega
      have hc3 : Chg [] w0 (wr.alloc (.cells (madeCells #[.int .i64 0] ls.length) 3)) := hfo.chg.nil_trans hcA
      have hfoot := hfo.foot
      have hml : w0.heap.size ≤ wr.heap.size := hfo.chg.size
      have HMk := Lib.hid hmk
      clear hfo hcA hg hmk hkl
      go_wp2
      clear hmkr
      generalize wr.alloc (.cells (madeCells #[.int .i64 0] ls.length) 3) = w3 at *
      generalize wr.heap.size = mb at *
      have HF3 := Lib.hid hf3
      have HFL := Lib.hid hfl
      have HC3 := Lib.hid hc3
      have HFO := Lib.hid hfoot
      clear hf3 hfl hc3 hfoot
      have hm0 : MetN w3 mb ls.length (gfun ls 0 []) := hmet.congr (fun x _ => (gfun_zero ls x).symm)
      clear hmet
      go_loopg [8, 9] ls.length (fun g c ii wx => ∃ i, i ≤ ls.length ∧ g = ls.length - i ∧ c = .int .i64 (kinds ls i : Nat) ∧ ii = .int .i64 i ∧ MetN wx mb ls.length (gfun ls i []) ∧ Chg [mb] w3 wx)
      case atStart => exact ⟨0, by omega, by omega, rfl, rfl, hm0, Chg.refl _ _⟩
      case round =>
        clear hm0
        obtain ⟨i, hil, hg, rfl, rfl, hM, hC⟩ := hrel
        obtain ⟨wi, rfl⟩ : ∃ wi : World, wi = wr := ⟨_, rfl⟩
        have hcw : Chg [] w0 wi := HC3.out.trans hC (fun x hx => .inr (by simp at hx; omega))
        have hF : FdIs wi b f := HF3.out.chg hC (fun x hx hx2 => by simp at hx2; subst hx2; exact hmf hx)
        by_cases hlt : i < ls.length
        · obtain ⟨pb, po, rfl, hpb, hrw⟩ := HR.out i hlt
          have hrk := hrw _ hcw
          have hpr : pb < wi.heap.size := Nat.lt_of_lt_of_le hpb hcw.size
          have hat := dAt_calls wi b f hF (by rw [HFL.out]; omega) ls[i]
          rw [HFL.out] at hat
          have HAT := Lib.hid hat
          have s1 := ls[i].2.1
          have s2 := ls[i].2.one
          have hki : ls[i]? = some ls[i] := List.getElem?_eq_getElem hlt
          have hfi := fstN_at (List.getElem_mem hlt)
          have hpos := idx_of_mem (List.getElem_mem hlt)
          have hil2 := idxOf_length ls[i] ls
          have hfr : frst ls i = decide (fstN ls[i] ls = i) := by unfold frst; rw [hki]
          have hkk := kinds_succ ls i
          have HKI := Lib.hid hki
          have HFR := Lib.hid hfr
          have hfst0 : (idxOf ls[i] ls)[0] = fstN ls[i] ls := head0 _ hpos
          have HF0 := Lib.hid hfst0
          have hkb : kinds ls i ≤ 200 := by
            have : kinds ls i ≤ (List.range i).length := List.countP_le_length
            rw [List.length_range] at this
            omega
          clear hat hki hfr hF hfst0
          generalize hX : ls[i] = X at *
          have HX := Lib.hid hX
          clear hX
          go_wp2_with fail
          go_at_call 13
          refine HAT.out.mono ?_
          rintro e w2 ⟨va, rfl, hU, hc2⟩
          obtain ⟨la, lcap, rfl, hcells⟩ := hU.nis
          rcases hcells with hcells | ⟨g0, rfl, hg0, hg0b, hcells⟩
          · rw [hcells] at hpos; simp at hpos
          have hmw := hM.chg hc2
          have hcell0 := hcells 0 hpos
          rw [HF0.out] at hcell0
          have hmb0 := (hM.cell hlt).2.2
          have HU := Lib.hid hU
          have HCL := Lib.hid hcells
          have HMW := Lib.hid hmw
          have HMM := Lib.hid hM
          have lz : ((idxOf X ls).length == 0) = false := by rw [beq_eq_false_iff_ne]; omega
          have lzI : (((idxOf X ls).length : Int) == 0) = false := by rw [beq_eq_false_iff_ne]; omega
          have hposI : (0 : Int) < ((idxOf X ls).length : Int) := by omega
          have HG := Lib.hid hg
          have HKK := Lib.hid hkk
          clear hU hcells hmw hM hg hkk
          by_cases hfst : fstN X ls = i
          · have ft : ((fstN X ls : Int) == (i : Int)) = true := by simp; omega
            have hfr1 : frst ls i = true := by rw [HFR.out]; simpa using hfst
            have HFS := Lib.hid hfst
            have HFR1 := Lib.hid hfr1
            clear hfst hfr1
            obtain ⟨L, hL⟩ : ∃ L, (idxOf X ls).length = L := ⟨_, rfl⟩
            obtain ⟨fs, hfs⟩ : ∃ fs, fstN X ls = fs := ⟨_, rfl⟩
            rw [hL] at hpos hil2 lz lzI hposI
            rw [hfs] at hcell0 ft hfi
            rw [hL]
            have HL := Lib.hid hL
            have HFSE := Lib.hid hfs
            clear hL hfs
            go_wp2
            go_loopg [11] L (fun g jj wx => ∃ j, j ≤ L ∧ g = L - j ∧ jj = .int .i64 j ∧ MetN wx mb ls.length (gfun ls i ((idxOf X ls).take j)) ∧ Chg [mb] w2 wx)
            case atStart => exact ⟨0, by omega, by omega, rfl, by rw [List.take_zero]; exact HMW.out, Chg.refl _ _⟩
            case round =>
              obtain ⟨j, hjl, hg2, rfl, hM2, hC2⟩ := hrel
              have hcw2 : Chg [mb] wi wr := (hc2.of_nil).trans hC2 (fun x hx => .inl hx)
              by_cases hlt2 : j < L
              · have hjj : j < (idxOf X ls).length := by rw [HL.out]; exact hlt2
                obtain ⟨g1, g2, g3⟩ := gfun_step HKI.out (by rw [HFSE.out] ; have := HFS.out; rw [HFSE.out] at this; exact this) hjj
                have hcj : wr.cell? ⟨g0, j, none⟩ = some (.int .u64 ((idxOf X ls)[j] : Nat)) := by
                  rw [hC2.cell (p := ⟨g0, j, none⟩) hg0 (by simp; omega)]
                  exact HCL.out j hjj
                have hxl : (idxOf X ls)[j] < ls.length := (List.getElem?_eq_some_iff.1 g3).1
                have hX2 : ls[(idxOf X ls)[j]] = X := (List.getElem?_eq_some_iff.1 g3).2
                obtain ⟨pb', po', hp1, hp2, hrw2⟩ := HR.out _ hxl
                injection hp1 with hp1
                injection hp1 with hp1a hp1b
                subst hp1a hp1b
                have hcww : Chg [] w0 wr := hcw.trans hcw2 (fun x hx => .inr (by simp at hx; omega))
                have rA := hrw2 _ hcww
                rw [hX2] at rA
                have rB := hrw _ hcww
                obtain ⟨mc1, mc2, mc3⟩ := hM2.cell hxl
                rw [g1] at mc1
                have hset := hM2.set (idxOf X ls)[j] 1 g2
                have hpr2 : pb < wr.heap.size := Nat.lt_of_lt_of_le hpb hcww.size
                have hg02 : g0 < wr.heap.size := Nat.lt_of_lt_of_le hg0 hC2.size
                generalize (idxOf X ls)[j] = y at *
                have yl : decide (ls.length ≤ y) = false := by simp; omega
                have yi : (y : Int) < (ls.length : Int) := by omega
                have y0 : (0 : Int) ≤ (y : Int) := by omega
                have ii0 : (0 : Int) ≤ (i : Int) := by omega
                have ii1 : (i : Int) < (ls.length : Int) := by omega
                have jj0 : (0 : Int) ≤ (j : Int) := by omega
                have jj1 : (j : Int) < (L : Int) := by omega
                have hee : eqH X.1 X.1 = true := eqH_self
                have hXi := X.2
                have hne0 : g0 ≠ mb := by omega
                have HSE := Lib.hid hset
                have HC22 := Lib.hid hC2
                have mc0 : wr.cell? ⟨mb, y, none⟩ = some (.int .i64 0) := mc1
                clear hset hM2 hC2 g1 g2 g3 hX2 hcw2 hrw2 hrw hrk hfi hjj HCL HL mc1
                generalize X.1 = x at *
                go_upto_region 23 with (fail)
                go_quiet (fail)
                go_wp2
                go_roundg (L - (j + 1))
                case measure => omega
                case rel => exact ⟨j + 1, by omega, rfl, by go_num, HSE.out.chg ((Chg.refl _ _).drewN _), (HC22.out.setCell (.inl (by simp)) _).drewN _⟩
              · obtain rfl : j = L := by omega
                have hfin : MetN wr mb ls.length (gfun ls (i + 1) []) := hM2.congr (fun y hy => by
                  rw [List.take_of_length_le (by rw [HL.out]; omega)]
                  exact gfun_yes HKI.out HFS.out hy)
                have hcf : Chg [mb] w3 wr := (hC.nil_trans hc2).trans hC2 (fun x hx => .inl hx)
                have HFN := Lib.hid hfin
                have HCF := Lib.hid hcf
                clear hfin hcf hM2 hC2 hcw2 hrk hrw hfi
                go_wp2
                go_roundg (ls.length - (i + 1))
                case measure => rw [HG.out]; omega
                case rel => exact ⟨i + 1, by omega, rfl, by rw [HKK.out, if_pos HFR1.out]; go_num, by go_num, HFN.out, HCF.out⟩
          · have ft : ((fstN X ls : Int) == (i : Int)) = false := by rw [beq_eq_false_iff_ne]; omega
            have hfr1 : frst ls i = false := by rw [HFR.out]; simpa using hfst
            have hfin : MetN w2 mb ls.length (gfun ls (i + 1) []) := HMW.out.congr (fun y hy => gfun_no hfr1 hy)
            have HFR1 := Lib.hid hfr1
            have HFN := Lib.hid hfin
            have hcf : Chg [mb] w3 w2 := hC.nil_trans hc2
            have HCF := Lib.hid hcf
            clear hfst hfr1 hfin hcf hpos HCL HF0 HU hfi hil2
            generalize (idxOf X ls).length = L at *
            generalize fstN X ls = fs at *
            go_wp2
            go_roundg (ls.length - (i + 1))
            case measure => rw [HG.out]; omega
            case rel => exact ⟨i + 1, by omega, rfl, by rw [HKK.out, if_neg (by rw [HFR1.out]; simp)], by go_num, HFN.out, HCF.out⟩
        · obtain rfl : i = ls.length := by omega
          have hone : MetN wi mb ls.length (fun _ => 1) := hM.congr (fun y hy => gfun_last hy)
          have hunl := fun W (hW : Chg [] wi W) => dUnlike_calls W b f (hF.chg0 hW)
          rw [hF.unlike, HFL.out] at hunl
          have hkb : kinds ls ls.length ≤ 200 := by
            have : kinds ls ls.length ≤ (List.range ls.length).length := List.countP_le_length
            rw [List.length_range] at this
            omega
          have HUN := Lib.hid hunl
          have HIF := Lib.hid hF
          have HON := Lib.hid hone
          have HCW := Lib.hid hcw
          have hmb0 : w0.heap.size ≤ mb := hml
          clear hunl hF hone hcw hM hC
          obtain ⟨KK, hKK⟩ : ∃ KK, kinds ls ls.length = KK := ⟨_, rfl⟩
          rw [hKK] at hkb ⊢
          rw [hKK] at HUN
          have hKK := Lib.hid hKK
          go_wp2
          go_loopg [12] ls.length (fun g ii wx => ∃ j, j ≤ ls.length ∧ g = ls.length - j ∧ ii = .int .i64 j ∧ wx = wi)
          case atStart => exact ⟨0, by omega, by omega, rfl, rfl⟩
          case round =>
            obtain ⟨j, hjl, hg3, rfl, rfl⟩ := hrel
            by_cases hlt3 : j < ls.length
            · have hcj := (HON.out.cell hlt3).1
              have hcj1 : wr.cell? ⟨mb, j, none⟩ = some (.int .i64 1) := hcj
              have hmbl := (HON.out.cell hlt3).2.2
              clear hcj
              go_wp2
              go_roundg (ls.length - (j + 1))
              case measure => omega
              case rel => exact ⟨j + 1, by omega, rfl, by go_num, rfl⟩
            · obtain rfl : j = ls.length := by omega
              have hun2 := HUN.out wr (Chg.refl _ _)
              have kk : ((KK : Int) != (KK : Int)) = false := by simp
              have hsz2 := dSize_calls wr b f HIF.out (by rw [HFL.out]; omega)
              rw [HFL.out] at hsz2
              by_cases hnl : ls.length < n
              · have hfar := dCut_far wr b f HIF.out (by rw [HFL.out]; omega) n (by rw [HFL.out]; exact hnl) hn
                have hsz3 := fun (W : World) (hW : Chg [] wr W) => dSize_calls W b f (HIF.out.chg0 hW) (by rw [HFL.out]; omega)
                rw [HFL.out] at hsz3
                have haw := fun W => awakeF_calls W
                have HF1 := Lib.hid hfar
                have HF2 := Lib.hid hsz3
                have HAW := Lib.hid haw
                have HU2 := Lib.hid hun2
                have hnd : decide (ls.length < n) = true := by simpa using hnl
                clear hfar hsz3 haw hun2 hsz2
                go_wp2_with fail
                go_at_call 21
                refine HU2.out.mono ?_
                rintro e w4 ⟨rfl, hw4⟩
                obtain rfl : wr = w4 := hw4.symm
                go_wp2_with fail
                go_at_call 18
                refine HF1.out.mono ?_
                rintro e w5 ⟨rfl, hc5⟩
                go_wp2_with fail
                go_at_call 22
                refine (HF2.out _ hc5).mono ?_
                rintro e w6 ⟨rfl, hw6⟩
                obtain rfl : w5 = w6 := hw6.symm
                go_wp2_with fail
                go_at_call 20
                refine (HAW.out _).mono ?_
                rintro e w7 ⟨rfl, hc7⟩
                go_wp2
                go_ret
                exact ⟨rfl, (HCW.out.nil_trans hc5).nil_trans hc7⟩
              · have hnl2 : n ≤ ls.length := by omega
                have hnd : decide (ls.length < n) = false := by simpa using hnl2
                obtain ⟨wq, rfl⟩ : ∃ wq : World, wq = wr := ⟨_, rfl⟩
                have hfo : FdL (f.foot b) wq wq b ls := ⟨f, FdOf.here HIF.out, HFL.out⟩
                have hfb : ∀ x ∈ f.foot b, w0.heap.size ≤ x := fun x hx => by rcases HFO.out x hx with q | q; simp at q; exact q
                have hcut := hfo.cut (by omega) n hnl2
                have HF1 := Lib.hid hcut
                have HU2 := Lib.hid hun2
                have htl : (ls.take n).length = n := by rw [List.length_take]; omega
                have HTL := Lib.hid htl
                have HFB := Lib.hid hfb
                clear hcut hun2 hsz2 hfo htl hfb hnl
                go_wp2_with fail
                go_at_call 21
                refine HU2.out.mono ?_
                rintro e w4 ⟨rfl, hw4⟩
                obtain rfl : wq = w4 := hw4.symm
                go_wp2_with fail
                go_at_call 18
                refine HF1.out.mono ?_
                rintro e w5 ⟨rfl, h5⟩
                have hs5 := h5.size (by rw [HTL.out]; omega)
                rw [HTL.out] at hs5
                have H5 := Lib.hid h5
                clear h5
                go_wp2_with (go_at_call 22; refine hs5.mono ?_; rintro e w6 ⟨rfl, hw6⟩; obtain rfl : w5 = w6 := hw6.symm)
                clear hs5
                go_loopg [13] (ls.length - n) (fun g ii wx => ∃ j, n ≤ j ∧ j ≤ ls.length ∧ g = ls.length - j ∧ ii = .int .u64 j ∧ FdL (f.foot b) wq wx b (ls.take j))
                case atStart => exact ⟨n, Nat.le_refl _, hnl2, rfl, rfl, H5.out⟩
                case round =>
                  obtain ⟨j, hnj, hjl, hg5, rfl, hT⟩ := hrel
                  have hcx : Chg [] w0 wr := HCW.out.trans hT.out (fun x hx => .inr (HFB.out x hx))
                  by_cases hlt5 : j < ls.length
                  · have htl : (ls.take j).length = j := by rw [List.length_take]; omega
                    have hlf := hT.leaf (by omega) j (by omega)
                    have e1 : lfE (ls.take j) j = 32 := by unfold lfE; rw [htl, if_neg (by omega)]
                    have e2 : lfH (ls.take j) j = zeroHash := by unfold lfH; rw [List.getElem?_eq_none (by omega)]; rfl
                    rw [e1, e2] at hlf
                    obtain ⟨pb, po, rfl, hpb, hrw⟩ := HR.out j hlt5
                    have htk : ls.take j ++ [ls[j]] = ls.take (j + 1) := (List.take_succ_eq_append_getElem hlt5).symm
                    have hadd := fun W (hW : Chg [] wr W) => (hT.chg0 hW).add (by omega) ls[j]
                    unfold AddL at hadd
                    rw [htl, htk] at hadd
                    have hrk := fun W (hW : Chg [] wr W) => hrw _ (hcx.nil_trans hW)
                    have hpr := fun W (hW : Chg [] wr W) => Nat.lt_of_lt_of_le hpb (hcx.nil_trans hW).size
                    have s1 := ls[j].2.1
                    have s2 := ls[j].2.one
                    have HLF := Lib.hid hlf
                    have HA := Lib.hid hadd
                    have HRK := Lib.hid hrk
                    have HPR := Lib.hid hpr
                    have HG5 := Lib.hid hg5
                    have zs := zeroHash_size
                    have jI : (j : Int) < (ls.length : Int) := by omega
                    have j0 : (0 : Int) ≤ (j : Int) := by omega
                    have jb : (j : Int) < 1000 := by omega
                    clear hlf hadd hrk hpr hg5 hT hcx htl htk e1 e2 hrw
                    generalize ls[j].1 = x at *
                    go_wp2_with fail
                    go_at_call 15
                    refine HLF.out.mono ?_
                    rintro e w6 ⟨rfl, hc6⟩
                    have hc6a := hc6.alloc (.cells zeroHash 30)
                    have r6 := HRK.out _ hc6a
                    have p6 := HPR.out _ hc6a
                    have HA6 := Lib.hid (HA.out _ hc6a)
                    clear hc6 hc6a
                    go_wp2_with fail
                    go_at_call 10
                    refine HA6.out.mono ?_
                    rintro e w7 ⟨rfl, h7⟩
                    go_wp2
                    go_roundg (ls.length - (j + 1))
                    case measure => rw [HG5.out]; omega
                    case rel => exact ⟨j + 1, by omega, by omega, rfl, by go_num, h7⟩
                  · obtain rfl : j = ls.length := by omega
                    rw [List.take_length] at hT
                    have hun := hT.unlike
                    have haw := fun W => awakeF_calls W
                    have kk2 : kinds ls ls.length = KK := hKK.out
                    rw [kk2] at hun
                    have kk3 : ((KK : Int) == (KK : Int)) = true := by simp
                    have HUN5 := Lib.hid hun
                    have HAW := Lib.hid haw
                    have HCX := Lib.hid hcx
                    clear hun haw hT hcx kk2
                    go_wp2_with fail
                    go_at_call 21
                    refine HUN5.out.mono ?_
                    rintro e w8 ⟨rfl, hw8⟩
                    obtain rfl : wr = w8 := hw8.symm
                    go_wp2_with fail
                    go_at_call 20
                    refine (HAW.out _).mono ?_
                    rintro e w9 ⟨rfl, hc9⟩
                    go_wp2
                    go_ret
                    exact ⟨rfl, HCX.out.nil_trans hc9⟩
set_option maxRecDepth 100000 in
theorem parts_walk (w : World) (lv : Value) (hs : List (Array Value)) (hv : HsIs w lv hs) (n : Int) (hn : 0 ≤ n ∧ n < 18446744073709551616) :
    Calls Try.prog 4 #[lv, .int .u64 n] w (Res w [] (.bool true)) := by
  by_cases h : hs.length ≤ 200
  · obtain ⟨L, hL⟩ : ∃ L : List HK, L.map (·.1) = hs := lift_list (p := IsHash) hs hv.1
    obtain ⟨n, rfl⟩ := Int.eq_ofNat_of_zero_le hn.1
    rw [← hL] at hv
    exact parts_main w lv L hv (by have := congrArg List.length hL; rw [List.length_map] at this; omega) n (by omega)
  · obtain ⟨_, a, cap, rfl, _⟩ := hv
    have g1 : decide ((200 : Int) < (hs.length : Int)) = true := decide_eq_true (by omega)
    go_enter Try.func4, Try.ntmps4
    go_wp2
    go_ret
    exact ⟨rfl, Chg.refl _ _⟩
end Go.Proofs.Ytonppfebmeehcaa

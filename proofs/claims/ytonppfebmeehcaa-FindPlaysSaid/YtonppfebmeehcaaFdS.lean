/- The document's find: At, Unlike, Twice walked; SameNumbers, SameHashes. -/
import Derived.Test.YtonppfebmeehcaaFdQ
namespace Go.Proofs.Ytonppfebmeehcaa
open Go.RowKit
set_option linter.unusedVariables false
set_option linter.unusedSimpArgs false

def idxTo (k : HK) (ls : List HK) (n : Nat) : List Nat := (List.range n).filter fun i => decide (ls[i]? = some k)
theorem idxTo_all (k : HK) (ls : List HK) : idxTo k ls ls.length = idxOf k ls := rfl
theorem idxTo_succ {k : HK} {ls : List HK} {n : Nat} (hn : n < ls.length) : idxTo k ls (n + 1) = if ls[n] = k then idxTo k ls n ++ [n] else idxTo k ls n := by
  unfold idxTo
  rw [List.range_succ, List.filter_append]
  by_cases h : ls[n] = k <;> simp [h, List.getElem?_eq_getElem hn]
theorem idxTo_len (k : HK) (ls : List HK) (n : Nat) : (idxTo k ls n).length ≤ n := by
  unfold idxTo
  have := List.length_filter_le (fun i => decide (ls[i]? = some k)) (List.range n)
  rwa [List.length_range] at this
theorem hk_eqH (x y : HK) : eqH x.1 y.1 = decide (x = y) := by
  rw [Bool.eq_iff_iff, eqH_iff x.2 y.2, decide_eq_true_iff]
  exact Subtype.ext_iff.symm
set_option maxRecDepth 100000 in
set_option maxHeartbeats 4000000 in
theorem rAt_calls (w : World) (rb : Nat) (rv : Value) (ls : List HK) (h : RfIs w rb rv ls) (hl : ls.length ≤ 100000) (k : HK) : Calls Try.prog 14 #[.pointer (some ⟨rb, 0, none⟩), .agg k.1] w (CloneP w (idxOf k ls)) := by
  obtain ⟨w0, rfl⟩ : ∃ w0 : World, w0 = w := ⟨_, rfl⟩
  obtain ⟨a, cap, rfl, hr⟩ := h.row.rowI
  have hk1 := k.2.1
  have hk2 := k.2.one
  have hkI := k.2
  have hA : Chg [] w0 (w0.alloc (.cells k.1 30)) := (Chg.refl _ _).alloc _
  have hbx := rng?_row (blk_new w0 (.cells k.1 30)) hk1
  have c0 := blk_cell h.mem 0 rfl
  have hb := blk_lt h.mem
  have HRW := Lib.hid hr
  have hz : (w0.alloc (.cells k.1 30)).heap.size = w0.heap.size + 1 := World.size_alloc _ _
  clear h hr
  go_enter Try.func14, Try.ntmps14
  go_wp2
  generalize hW1 : w0.alloc (.cells k.1 30) = w1 at *
  clear hW1
  go_loopg [5, 6] ls.length (fun g v ii wx => ∃ i u, i ≤ ls.length ∧ g = ls.length - i ∧ v = u ∧ ii = .int .i64 i ∧ UOwn wx w1.heap.size u (idxTo k ls i) ∧ Chg [] w1 wx)
  case atStart => exact ⟨0, _, by omega, by omega, rfl, rfl, UOwn.nil _ _, Chg.refl _ _⟩
  case round =>
    obtain ⟨i, u, hil, hg, rfl, rfl, hU, hC⟩ := hrel
    have hcw : Chg [] w0 wr := hA.nil_trans hC
    have d0 : wr.cell? ⟨rb, 0, none⟩ = some (.slice a ls.length cap) := by rw [hcw.cell (p := ⟨rb, 0, none⟩) hb (by simp)]; exact c0
    have hbr : rb < wr.heap.size := Nat.lt_of_lt_of_le hb hcw.size
    by_cases hlt : i < ls.length
    · obtain ⟨g, rfl, hgl, hrow0⟩ := HRW.out i hlt
      have hrow := rng?_chg hcw hrow0 (by omega) (by simp)
      have hbx2 := rng?_chg hC hbx (by omega) (by simp)
      have hgr : g < wr.heap.size := Nat.lt_of_lt_of_le hgl hcw.size
      have hbl : w0.heap.size < wr.heap.size := by have := hC.size; omega
      have hx1 := ls[i].2.1
      have hx2 := ls[i].2.one
      have hxI := ls[i].2
      have hsucc := idxTo_succ (k := k) hlt
      have hee := hk_eqH ls[i] k
      have hol := own_lt hU
      have hlen := idxTo_len k ls i
      have i0 : (0 : Int) ≤ (i : Int) := by omega
      have i1 : (i : Int) < (ls.length : Int) := by omega
      have HG := Lib.hid hg
      by_cases he : ls[i] = k
      · rw [if_pos he] at hsucc
        have he1 : eqH ls[i].1 k.1 = true := by rw [hee]; simpa using he
        have hpush : ∀ nq, ∃ v' w', (Builtin.append_ #[36, 36] 36 #[u5, .slice (some ⟨wr.heap.size, 0, none⟩) 1 1]).run Try.prog ((wr.drewN nq).alloc (.cells #[.int .u64 i] 31)) = .ok v' w' ∧ UOwn w' w1.heap.size v' (idxTo k ls (i + 1)) ∧ Chg [] w1 w' := by
          intro nq
          obtain ⟨v', w', hrun, hO, hc, hb2⟩ := UOwn.push (own_chg hU ((Chg.refl [] wr).drewN nq) (by simp)) i (by omega) (by have := hC.size; exact this) 36
          refine ⟨v', w', hrun, by rw [hsucc]; exact hO, (hC.drewN nq).trans hc (fun x hx => .inr (hol x hx).1)⟩
        have HP := Lib.hid hpush
        clear hpush hU hsucc hee hol hg he hrow0
        generalize ls[i].1 = x at *
        go_upto_region 5 with (fail)
        go_quiet (fail)
        obtain ⟨v', w', hrun, hO, hc⟩ := HP.out nq
        have hrun2 : (Builtin.append_ #[36, 36] 36 #[u5, .slice (some ⟨wr.heap.size, 0, none⟩) 1 1]).run Try.prog ((wr.alloc (.cells #[.int .u64 i] 31)).drewN nq) = .ok v' w' := hrun
        have HO := Lib.hid hO
        have HC := Lib.hid hc
        clear hO hc
        go_wp2_with (at_builtin; refine Lib.wpList_append_run _ rfl _ _ _ _ rfl _ _ rfl rfl _ _ hrun2 ?_)
        go_roundg (ls.length - (i + 1))
        case measure => rw [HG.out]; omega
        case rel => exact ⟨i + 1, _, by omega, rfl, rfl, by go_num, HO.out, HC.out⟩
      · rw [if_neg he] at hsucc
        have he1 : eqH ls[i].1 k.1 = false := by rw [hee]; simpa using he
        have hn : UOwn wr w1.heap.size u5 (idxTo k ls (i + 1)) := by rw [hsucc]; exact hU
        have HU := Lib.hid hn
        clear hn hU hsucc hee hol hg he hrow0
        generalize ls[i].1 = x at *
        go_upto_region 5 with (fail)
        go_quiet (fail)
        go_wp2
        go_roundg (ls.length - (i + 1))
        case measure => rw [HG.out]; omega
        case rel => exact ⟨i + 1, _, by omega, rfl, rfl, by go_num, own_chg HU.out ((Chg.refl [] wr).drewN _) (by simp), hC.drewN _⟩
    · obtain rfl : i = ls.length := by omega
      rw [idxTo_all] at hU
      have hlt1 : w0.heap.size ≤ w1.heap.size := by omega
      have hm := own_mono hU hlt1
      have HU := Lib.hid hm
      clear hU hg hm
      go_wp2
      go_ret
      exact ⟨_, rfl, HU.out, hcw⟩
theorem frst_eq {ls : List HK} {i : Nat} (hi : i < ls.length) : frst ls i = decide (fstN ls[i] ls = i) := by unfold frst; rw [List.getElem?_eq_getElem hi]
set_option maxRecDepth 100000 in
set_option maxHeartbeats 4000000 in
theorem rUnlike_calls (w : World) (rb : Nat) (rv : Value) (ls : List HK) (h : RfIs w rb rv ls) (hl : ls.length ≤ 100000) : Calls Try.prog 44 #[.pointer (some ⟨rb, 0, none⟩)] w (Res w [] (.int .i64 (kinds ls ls.length : Nat))) := by
  obtain ⟨w0, rfl⟩ : ∃ w0 : World, w0 = w := ⟨_, rfl⟩
  have H := Lib.hid h
  obtain ⟨a, cap, rfl, hr⟩ := h.row.rowI
  have c0 := blk_cell h.mem 0 rfl
  have hb := blk_lt h.mem
  have HRW := Lib.hid hr
  clear h hr
  go_enter Try.func44, Try.ntmps44
  go_wp2
  go_loopg [3, 4] ls.length (fun g n ii wx => ∃ i, i ≤ ls.length ∧ g = ls.length - i ∧ n = .int .i64 (kinds ls i : Nat) ∧ ii = .int .i64 i ∧ Chg [] w0 wx)
  case atStart => exact ⟨0, by omega, by omega, rfl, rfl, Chg.refl _ _⟩
  case round =>
    obtain ⟨i, hil, hg, rfl, rfl, hC⟩ := hrel
    have d0 : wr.cell? ⟨rb, 0, none⟩ = some (.slice a ls.length cap) := by rw [hC.cell (p := ⟨rb, 0, none⟩) hb (by simp)]; exact c0
    have hbr : rb < wr.heap.size := Nat.lt_of_lt_of_le hb hC.size
    by_cases hlt : i < ls.length
    · obtain ⟨g, rfl, hgl, hrow0⟩ := HRW.out i hlt
      have hrow := rng?_chg hC hrow0 (by omega) (by simp)
      have hgr : g < wr.heap.size := Nat.lt_of_lt_of_le hgl hC.size
      have hx1 := ls[i].2.1
      have hx2 := ls[i].2.one
      have hxI := ls[i].2
      have hat := rAt_calls wr rb _ ls (H.out.chg0 hC) hl ls[i]
      have hpos := idx_of_mem (List.getElem_mem hlt)
      have hfr := frst_eq hlt
      have hkk := kinds_succ ls i
      have hfst0 : (idxOf ls[i] ls)[0] = fstN ls[i] ls := head0 _ hpos
      have hfl := (fstN_at (List.getElem_mem hlt)).2
      have i0 : (0 : Int) ≤ (i : Int) := by omega
      have i1 : (i : Int) < (ls.length : Int) := by omega
      have hkb : kinds ls i ≤ i := by
        have : kinds ls i ≤ (List.range i).length := List.countP_le_length
        rwa [List.length_range] at this
      have HAT := Lib.hid hat
      have HG := Lib.hid hg
      have HFR := Lib.hid hfr
      have HKK := Lib.hid hkk
      have HF0 := Lib.hid hfst0
      clear hat hfr hkk hfst0 hg hrow0
      generalize ls[i] = X at *
      go_wp2_with fail
      go_at_call 14
      refine HAT.out.mono ?_
      rintro e w2 ⟨va, rfl, hU, hc2⟩
      obtain ⟨la, lcap, rfl, hcells⟩ := hU.nis
      rcases hcells with hcells | ⟨g0, rfl, hg0, hg0b, hcells⟩
      · rw [hcells] at hpos; simp at hpos
      have hcell0 := hcells 0 hpos
      rw [HF0.out] at hcell0
      have hposI : (0 : Int) < ((idxOf X ls).length : Int) := by omega
      obtain ⟨L, hL⟩ : ∃ L, (idxOf X ls).length = L := ⟨_, rfl⟩
      obtain ⟨fs, hfs⟩ : ∃ fs, fstN X ls = fs := ⟨_, rfl⟩
      rw [hL] at hpos hposI
      rw [hfs] at hcell0 hfl
      rw [hfs] at HFR
      rw [hL]
      clear hL hfs hcells hU HF0 HAT
      by_cases hfst : fs = i
      · have ft : ((fs : Int) == (i : Int)) = true := by simp; omega
        have hfr1 : frst ls i = true := by rw [HFR.out]; simpa using hfst
        have HFR1 := Lib.hid hfr1
        clear hfst hfr1
        go_wp2
        go_roundg (ls.length - (i + 1))
        case measure => rw [HG.out]; omega
        case rel => exact ⟨i + 1, by omega, rfl, by rw [HKK.out, if_pos HFR1.out]; go_num, by go_num, hC.nil_trans hc2⟩
      · have ft : ((fs : Int) == (i : Int)) = false := by rw [beq_eq_false_iff_ne]; omega
        have hfr1 : frst ls i = false := by rw [HFR.out]; simpa using hfst
        have HFR1 := Lib.hid hfr1
        clear hfst hfr1
        go_wp2
        go_roundg (ls.length - (i + 1))
        case measure => rw [HG.out]; omega
        case rel => exact ⟨i + 1, by omega, rfl, by rw [HKK.out, if_neg (by rw [HFR1.out]; simp)], by go_num, hC.nil_trans hc2⟩
    · obtain rfl : i = ls.length := by omega
      clear hg
      generalize kinds ls ls.length = K0 at *
      go_wp2
      go_ret
      exact ⟨rfl, hC⟩
def twTo (ls : List HK) (n : Nat) : List HK := (List.range n).filterMap (tw1 ls)
theorem twTo_all (ls : List HK) : twTo ls ls.length = twiceL ls := rfl
theorem twTo_succ (ls : List HK) (n : Nat) : twTo ls (n + 1) = twTo ls n ++ (tw1 ls n).toList := by
  unfold twTo
  rw [List.range_succ, List.filterMap_append]
  congr 1
theorem twTo_len (ls : List HK) (n : Nat) : (twTo ls n).length ≤ n := by
  unfold twTo
  have := List.length_filterMap_le (tw1 ls) (List.range n)
  rwa [List.length_range] at this
theorem tw1_eq {ls : List HK} {i : Nat} (hi : i < ls.length) : tw1 ls i = if fstN ls[i] ls = i ∧ 1 < (idxOf ls[i] ls).length then some ls[i] else none := by
  unfold tw1
  rw [List.getElem?_eq_getElem hi]
set_option maxRecDepth 100000 in
set_option maxHeartbeats 8000000 in
theorem rTwice_calls (w : World) (rb : Nat) (rv : Value) (ls : List HK) (h : RfIs w rb rv ls) (hl : ls.length ≤ 100000) : Calls Try.prog 41 #[.pointer (some ⟨rb, 0, none⟩)] w (TwL w ls) := by
  obtain ⟨w0, rfl⟩ : ∃ w0 : World, w0 = w := ⟨_, rfl⟩
  have H := Lib.hid h
  obtain ⟨a, cap, rfl, hr⟩ := h.row.rowI
  have c0 := blk_cell h.mem 0 rfl
  have hb := blk_lt h.mem
  have HRW := Lib.hid hr
  clear h hr
  go_enter Try.func41, Try.ntmps41
  go_wp2
  go_loopg [3, 4] ls.length (fun g v ii wx => ∃ i u, i ≤ ls.length ∧ g = ls.length - i ∧ v = u ∧ ii = .int .i64 i ∧ HOwn wx w0.heap.size u ((twTo ls i).map (·.1)) ∧ Chg [] w0 wx)
  case atStart => exact ⟨0, _, by omega, by omega, rfl, rfl, HOwn.nil _ _, Chg.refl _ _⟩
  case round =>
    obtain ⟨i, u, hil, hg, rfl, rfl, hO, hC⟩ := hrel
    have d0 : wr.cell? ⟨rb, 0, none⟩ = some (.slice a ls.length cap) := by rw [hC.cell (p := ⟨rb, 0, none⟩) hb (by simp)]; exact c0
    have hbr : rb < wr.heap.size := Nat.lt_of_lt_of_le hb hC.size
    by_cases hlt : i < ls.length
    · obtain ⟨g, rfl, hgl, hrow0⟩ := HRW.out i hlt
      have hrow := rng?_chg hC hrow0 (by omega) (by simp)
      have hgr : g < wr.heap.size := Nat.lt_of_lt_of_le hgl hC.size
      have hx1 := ls[i].2.1
      have hx2 := ls[i].2.one
      have hxI := ls[i].2
      have hat := rAt_calls wr rb _ ls (H.out.chg0 hC) hl ls[i]
      have hpos := idx_of_mem (List.getElem_mem hlt)
      have htw := twTo_succ ls i
      rw [tw1_eq hlt] at htw
      have hfst0 : (idxOf ls[i] ls)[0] = fstN ls[i] ls := head0 _ hpos
      have hfl := (fstN_at (List.getElem_mem hlt)).2
      have hil2 := idxOf_length ls[i] ls
      have i0 : (0 : Int) ≤ (i : Int) := by omega
      have i1 : (i : Int) < (ls.length : Int) := by omega
      have htl := twTo_len ls i
      have HAT := Lib.hid hat
      have HG := Lib.hid hg
      have HF0 := Lib.hid hfst0
      have HTW := Lib.hid htw
      have HO := Lib.hid hO
      clear hat htw hfst0 hg hO
      generalize ls[i] = X at *
      go_wp2_with fail
      go_at_call 14
      refine HAT.out.mono ?_
      rintro e w2 ⟨va, rfl, hU, hc2⟩
      obtain ⟨la, lcap, rfl, hcells⟩ := hU.nis
      rcases hcells with hcells | ⟨g0, rfl, hg0, hg0b, hcells⟩
      · rw [hcells] at hpos; simp at hpos
      have hcell0 := hcells 0 hpos
      rw [HF0.out] at hcell0
      have hposI : (0 : Int) < ((idxOf X ls).length : Int) := by omega
      have hO2 := HO.out.chg hc2 (by simp)
      have hcw : Chg [] w0 w2 := hC.nil_trans hc2
      have d02 : w2.cell? ⟨rb, 0, none⟩ = some (.slice (some ⟨g, 0, none⟩) ls.length cap) := by rw [hcw.cell (p := ⟨rb, 0, none⟩) hb (by simp)]; exact c0
      have hbr2 : rb < w2.heap.size := Nat.lt_of_lt_of_le hb hcw.size
      have hrow2 := rng?_chg hcw hrow0 (by omega) (by simp)
      have hgr2 : g < w2.heap.size := Nat.lt_of_lt_of_le hgl hcw.size
      obtain ⟨v', w', hrun, hO3, hc3, hb3⟩ := hO2.push X.1 hxI (by rw [List.length_map]; omega) hcw.size 26
      have hol := own_lt hO2.1
      have hcf : Chg [] w0 w' := hcw.trans hc3 (fun x hx => .inr (hol x hx).1)
      obtain ⟨L, hL⟩ : ∃ L, (idxOf X ls).length = L := ⟨_, rfl⟩
      obtain ⟨fs, hfs⟩ : ∃ fs, fstN X ls = fs := ⟨_, rfl⟩
      rw [hL] at hpos hposI hil2
      rw [hfs] at hcell0 hfl
      rw [hfs, hL] at HTW
      rw [hL]
      have HO2 := Lib.hid hO2
      have HO3 := Lib.hid hO3
      have HCF := Lib.hid hcf
      clear hL hfs hcells hU HF0 HAT HO hO2 hO3 hcf hb3 hc3 hol hrow0 hrow d0
      by_cases hc : fs = i ∧ 1 < L
      · obtain ⟨h1, h2⟩ := hc
        have ft : ((fs : Int) == (i : Int)) = true := by simp; omega
        have h3 : decide ((1 : Int) < (L : Int)) = true := by simp; omega
        have hfin : HOwn w' w0.heap.size v' ((twTo ls (i + 1)).map (·.1)) := by rw [HTW.out, if_pos ⟨h1, h2⟩, List.map_append]; exact HO3.out
        have HFN := Lib.hid hfin
        clear hfin h1
        generalize X.1 = x at *
        go_wp2_with (at_builtin; refine Lib.wpList_append_run _ rfl _ _ _ _ rfl _ _ rfl rfl _ _ hrun ?_)
        go_roundg (ls.length - (i + 1))
        case measure => rw [HG.out]; omega
        case rel => exact ⟨i + 1, _, by omega, rfl, rfl, by go_num, HFN.out, HCF.out⟩
      · have hfin : HOwn w2 w0.heap.size u3 ((twTo ls (i + 1)).map (·.1)) := by rw [HTW.out, if_neg hc, Option.toList_none, List.append_nil]; exact HO2.out
        have HFN := Lib.hid hfin
        clear hfin hrun
        by_cases h1 : fs = i
        · have ft : ((fs : Int) == (i : Int)) = true := by simp; omega
          have h2 : ¬ 1 < L := fun h => hc ⟨h1, h⟩
          have h3 : decide ((1 : Int) < (L : Int)) = false := by simp; omega
          clear h1 hc
          go_wp2
          go_roundg (ls.length - (i + 1))
          case measure => rw [HG.out]; omega
          case rel => exact ⟨i + 1, _, by omega, rfl, rfl, by go_num, HFN.out, hcw⟩
        · have ft : ((fs : Int) == (i : Int)) = false := by rw [beq_eq_false_iff_ne]; omega
          clear h1 hc
          go_wp2
          go_roundg (ls.length - (i + 1))
          case measure => rw [HG.out]; omega
          case rel => exact ⟨i + 1, _, by omega, rfl, rfl, by go_num, HFN.out, hcw⟩
    · obtain rfl : i = ls.length := by omega
      rw [twTo_all] at hO
      have HO := Lib.hid hO
      clear hg hO
      go_wp2
      go_ret
      exact ⟨_, rfl, HO.out, hC⟩
end Go.Proofs.Ytonppfebmeehcaa

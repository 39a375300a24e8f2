/- The laws' alike: a loom and the document's tell the same, in memory of its own. -/
import Derived.Test.YtfmdghijbkddpaaLmRg
import Derived.Deep.RegionHeld3
namespace Go.Proofs.Ytfmdghijbkddpaa
open Go.RowKit
set_option linter.unusedVariables false
set_option linter.unusedSimpArgs false

set_option maxRecDepth 100000 in
set_option maxHeartbeats 8000000 in
theorem alike_calls (w : World) (b : Nat) (s : LS) (q : LV) (rb : Nat) (rq : RV) (hL : LmIs w b s q) (hR : RefIs w rb s rq) (hi : s.inv) (hz : ∀ x ∈ s.ws, x.1 = 0 → x.2 = 0) :
    Calls Try.prog 20 #[.pointer (some ⟨b, 0, none⟩), .pointer (some ⟨rb, 0, none⟩)] w fun e w' => e = .returned (.bool true) ∧ Chg [] w w' := by
  have hms : s.moves.length ≤ 260 := by have := moves_length s; have := hL.2.2.2.2.2.ws; omega
  have has : s.ans.length ≤ 65536 := hL.2.2.2.2.2.ans.1
  have HL := Lib.hid hL
  have HR := Lib.hid hR
  have HI := Lib.hid hi
  have HZ := Lib.hid hz
  have hCM := fun w' (hc : Chg [] w w') => moves_calls w' b s q (hL.chg0 hc)
  have hCR := fun w' (hc : Chg [] w w') => rmoves_calls w' rb s rq (hR.chg0 hc) hi hz
  have hCA := fun w' (hc : Chg [] w w') => answers_calls w' b s q (hL.chg0 hc)
  clear hL hR hi hz
  generalize hmm : s.moves = ms at *
  have HMM := Lib.hid hmm
  clear hmm
  go_enter Try.func20, Try.ntmps20
  go_upto_region 2 with (go_at_call 25; refine (hCR w (Chg.refl _ _)).mono ?_; rintro e w1 ⟨vw, rfl, hw1, hc1, _⟩)
  replace hCM := fun w' (hc : Chg [] w1 w') => hCM w' (hc1.nil_trans hc)
  replace hCA := fun w' (hc : Chg [] w1 w') => hCA w' (hc1.nil_trans hc)
  clear hCR
  go_wp2_with fail
  go_at_call 13
  refine (hCM w1 (Chg.refl _ _)).mono ?_
  rintro e w2 ⟨va, rfl, ha2, hc2, na⟩
  have k2 := hc2
  go_wp2_with fail
  go_at_call 13
  refine (hCM w2 k2).mono ?_
  rintro e w3 ⟨vb, rfl, hb3, hc3, nb⟩
  have k3 := k2.nil_trans hc3
  go_wp2_with fail
  go_at_call 28
  refine (hCA w3 k3).mono ?_
  rintro e w4 ⟨vc, rfl, hc4r, hc4, nc⟩
  have k4 := k3.nil_trans hc4
  go_wp2_with fail
  go_at_call 28
  refine (hCA w4 k4).mono ?_
  rintro e w5 ⟨vd, rfl, hd5, hc5, nd⟩
  have k5 := k4.nil_trans hc5
  have s2 := hc2.size
  have s3 := hc3.size
  have s4 := hc4.size
  have s5 := hc5.size
  have hQ5 : Q4 w1 w5 va vb vc vd ms ms s.ans s.ans := by
    have l2 := ha2.lt
    have l3 := hb3.lt
    have l4 := hc4r.lt
    refine ⟨((ha2.chg0 hc3).chg0 hc4).chg0 hc5, (hb3.chg0 hc4).chg0 hc5, hc4r.chg0 hc5, hd5, k5, ?_, ?_, ?_, ?_, ?_, ?_, ?_, ?_, ?_, ?_⟩
    · intro k hk; have := na k hk; omega
    · intro k hk; have := nb k hk; omega
    · intro k hk; have := nc k hk; omega
    · intro k hk; have := nd k hk; omega
    · intro k hk h2; have := l2 k hk; have := nb k h2; omega
    · intro k hk h2; have := l2 k hk; have := nc k h2; omega
    · intro k hk h2; have := l2 k hk; have := nd k h2; omega
    · intro k hk h2; have := l3 k hk; have := nc k h2; omega
    · intro k hk h2; have := l3 k hk; have := nd k h2; omega
    · intro k hk h2; have := l4 k hk; have := nd k h2; omega
  have hwant := hw1.chg0 k5
  have hgot := fun w' (hc : Chg [] w1 w') => (HR.out.chg0 (hc1.nil_trans hc))
  have HC1 := Lib.hid hc1
  clear ha2 hb3 hc4r hd5 hc1 hc2 hc3 hc4 hc5 k2 k3 k4 na nb nc nd
  -- region 4
  obtain ⟨c0, c1, c2, c3, c4, c5, c6, c7, c8, c9, c10, c11, c12⟩ := (hgot w5 k5).cells
  have hbl := World.block_lt_of_cell? _ _ c0
  clear c0 c1 c2 c3 c4 c5 c6 c7 c9 c10 c11 c12
  go_wp2_with fail
  go_at_call 46
  refine (same_calls w5 va vw ms (by omega) hQ5.ra hwant).mono ?_
  rintro e w6 ⟨rfl, hc6⟩
  have hQ6 := hQ5.chg0 hc6
  have hwant6 := hwant.chg0 hc6
  go_wp2_with fail
  go_at_call 46
  refine (same_calls w6 vb vw ms (by omega) hQ6.rb hwant6).mono ?_
  rintro e w7 ⟨rfl, hc7⟩
  have hQ7 := hQ6.chg0 hc7
  have hwant7 := hwant6.chg0 hc7
  have hR7 := hgot w7 hQ7.chg
  have c8 := hR7.cells.2.2.2.2.2.2.2.2.1
  have hbl := blk_lt hR7.1
  have hg7 := hR7.2.2.2.1
  clear hR7 hQ5 hQ6 hwant hwant6 hc6 hc7 k5
  go_wp2_with fail
  go_at_call 31
  refine (list_calls w7 vc _ s.ans (by omega) hQ7.rc hg7).mono ?_
  rintro e w8 ⟨rfl, hc8⟩
  have hQ8 := hQ7.chg0 hc8
  have hwant8 := hwant7.chg0 hc8
  have hR8 := hgot w8 hQ8.chg
  have c8 := hR8.cells.2.2.2.2.2.2.2.2.1
  have hbl := blk_lt hR8.1
  have hg8 := hR8.2.2.2.1
  clear hR8 hQ7 hwant7 hc8 hg7
  go_wp2_with fail
  go_at_call 31
  refine (list_calls w8 vd _ s.ans (by omega) hQ8.rd hg8).mono ?_
  rintro e w9 ⟨rfl, hc9⟩
  have hQ9 := hQ8.chg0 hc9
  have HW1 := Lib.hid hw1
  have H9 := Lib.hid hQ9.chg
  clear hQ8 hwant8 hc9 hg8 c8 hbl hw1
  go_upto_region 6 with (fail)
  go_cut [10] from 10 to 10 (fun ii wx => ii = .int .i64 0 ∧ wx = w9)
  case first =>
    go_wp2
    go_meet
    exact ⟨rfl, rfl⟩
  case rest =>
  obtain ⟨rfl, hwe⟩ := hcut
  subst hwe
  go_step
  go_cut [] from 10 to 10 (fun wx => ∃ la lb : List Mv, la.length = ms.length ∧ lb.length = ms.length ∧ (∀ x ∈ la, x.job = 201) ∧ (∀ x ∈ lb, x.job = 202) ∧ Q4 w1 wx va vb vc vd la lb s.ans s.ans)
  case first =>
    obtain ⟨aa, acap, hae, _⟩ := hQ9.ra.slice
    obtain ⟨ba, bcap, hbe, _⟩ := hQ9.rb.slice
    subst hae hbe
    go_upto_region 7 with (fail)
    go_loopg [10] ms.length (fun g ii wx => ∃ (i : Nat) (la lb : List Mv), i ≤ ms.length ∧ g = ms.length - i ∧ ii = .int .i64 i ∧ la.length = ms.length ∧ lb.length = ms.length ∧ (∀ y (h : y < la.length), y < i → la[y].job = 201) ∧ (∀ y (h : y < lb.length), y < i → lb[y].job = 202) ∧ Q4 w1 wx (.slice aa ms.length acap) (.slice ba ms.length bcap) vc vd la lb s.ans s.ans)
    case atStart => exact ⟨0, ms, ms, by omega, by omega, rfl, rfl, rfl, fun y h hy => by omega, fun y h hy => by omega, hQ9⟩
    case round =>
      clear hQ9
      obtain ⟨i, la, lb, hi, hgi, rfl, hla, hlb, h1, h2, hQ⟩ := hrel
      by_cases hlt : i < ms.length
      · have hlt' : i < ms.length := hlt
        have hra := hQ.ra
        have hrb := hQ.rb
        rw [hla] at hra
        rw [hlb] at hrb
        obtain ⟨ga, oa, ca, hae, _, _⟩ := hra.ptr (by omega)
        obtain ⟨gb, ob, cb, hbe, _, _⟩ := hrb.ptr (by omega)
        simp only [Value.slice.injEq, true_and] at hae hbe
        obtain ⟨rfl, rfl⟩ := hae
        obtain ⟨rfl, rfl⟩ := hbe
        have hne : ga ≠ gb := fun e => hQ.ab ga rfl (by rw [e]; rfl)
        have hne2 : gb ≠ ga := fun e => hne e.symm
        have hia : i < la.length := by omega
        have hib : i < lb.length := by omega
        obtain ⟨x1, x2, x3⟩ := mCells_at la i hia
        obtain ⟨z1, z2, z3⟩ := mCells_at lb i hib
        have y1 := hra.cell x1
        have y2 := hra.cell x2
        have y3 := hra.cell x3
        have t1 := hrb.cell z1
        have t2 := hrb.cell z2
        have t3 := hrb.cell z3
        have f1 := hra.frozen (oa + i * 3)
        have f2 := hra.frozen (oa + i * 3 + 1)
        have f3 := hra.frozen (oa + i * 3 + 2)
        have e1 := hrb.frozen (ob + i * 3)
        have e2 := hrb.frozen (ob + i * 3 + 1)
        have e3 := hrb.frozen (ob + i * 3 + 2)
        rw [← Nat.add_assoc] at y2 y3 t2 t3
        have b1 := World.block_lt_of_cell? _ _ y1
        have b2 := World.block_lt_of_cell? _ _ t1
        have hA := row_mv2 hla hra i hlt' ⟨0, 0, 201⟩
        have hQA := hQ.upA (by simpa [Value.ownBlock] using hA.2) hA.1 (.inl rfl)
        have hrb' := hQA.rb
        rw [hlb] at hrb'
        have hB := row_mv2 hlb hrb' i hlt' ⟨0, 0, 202⟩
        have hQB := hQA.upB (by simpa [Value.ownBlock] using hB.2) hB.1 (.inl rfl)
        have HQB := Lib.hid hQB
        have J1 := Lib.hid (set_job (m := ⟨0, 0, 201⟩) rfl h1)
        have J2 := Lib.hid (set_job (m := ⟨0, 0, 202⟩) rfl h2)
        have HLA := Lib.hid hla
        have HLB := Lib.hid hlb
        clear hQ hra hrb hA hQA hrb' hB hQB x1 x2 x3 z1 z2 z3 h1 h2 hla hlb
        go_wp2
        go_roundg (ms.length - (i + 1))
        case measure => omega
        case rel => exact ⟨i + 1, _, _, by omega, rfl, by go_num, by rw [List.length_set]; exact HLA.out, by rw [List.length_set]; exact HLB.out, J1.out, J2.out, HQB.out⟩
      · obtain rfl : i = ms.length := by omega
        have G1 : Hid (∀ x ∈ la, x.job = 201) := fun x hx => by
          obtain ⟨y, hy, rfl⟩ := List.mem_iff_getElem.1 hx
          exact h1 y hy (by omega)
        have G2 : Hid (∀ x ∈ lb, x.job = 202) := fun x hx => by
          obtain ⟨y, hy, rfl⟩ := List.mem_iff_getElem.1 hx
          exact h2 y hy (by omega)
        have HLA := Lib.hid hla
        have HLB := Lib.hid hlb
        clear h1 h2 hla hlb
        go_wp2
        go_meet
        exact ⟨la, lb, HLA.out, HLB.out, G1.out, G2.out, hQ⟩
  case rest =>
  clear hQ9
  obtain ⟨la, lb, hla, hlb, hj1, hj2, hQ⟩ := hcut
  have HLA := Lib.hid hla
  have HLB := Lib.hid hlb
  clear hla hlb
  go_upto_region 10 with (fail)
  obtain ⟨wA, hwA⟩ : ∃ wA, wA = wc := ⟨_, rfl⟩
  rw [← hwA] at hQ ⊢
  clear hwA
  go_cut [11] from 11 to 11 (fun ii wx => ii = .int .i64 0 ∧ wx = wA)
  case first =>
    go_wp2
    go_meet
    exact ⟨rfl, rfl⟩
  case rest =>
  obtain ⟨rfl, hwe⟩ := hcut
  subst hwe
  go_step
  go_cut [] from 11 to 11 (fun wx => ∃ lc ld : List Nat, lc.length = s.ans.length ∧ ld.length = s.ans.length ∧ (∀ x ∈ lc, x = 203) ∧ (∀ x ∈ ld, x = 204) ∧ Q4 w1 wx va vb vc vd la lb lc ld)
  case first =>
    obtain ⟨ca, ccap, hce, _⟩ := hQ.rc.slice
    obtain ⟨da, dcap, hde, _⟩ := hQ.rd.slice
    subst hce hde
    go_upto_region 11 with (fail)
    go_loopg [11] s.ans.length (fun g ii wx => ∃ (i : Nat) (lc ld : List Nat), i ≤ s.ans.length ∧ g = s.ans.length - i ∧ ii = .int .i64 i ∧ lc.length = s.ans.length ∧ ld.length = s.ans.length ∧ (∀ y (h : y < lc.length), y < i → lc[y] = 203) ∧ (∀ y (h : y < ld.length), y < i → ld[y] = 204) ∧ Q4 w1 wx va vb (.slice ca s.ans.length ccap) (.slice da s.ans.length dcap) la lb lc ld)
    case atStart => exact ⟨0, s.ans, s.ans, by omega, by omega, rfl, rfl, rfl, fun y h hy => by omega, fun y h hy => by omega, hQ⟩
    case round =>
      clear hQ
      obtain ⟨i, lc, ld, hi, hgi, rfl, hlc, hld, h1, h2, hQ⟩ := hrel
      by_cases hlt : i < s.ans.length
      · have hlt' : i < s.ans.length := hlt
        have hrc := hQ.rc
        have hrd := hQ.rd
        rw [hlc] at hrc
        rw [hld] at hrd
        obtain ⟨gc, oc, cc, hce, _, _⟩ := hrc.ptr (by omega)
        obtain ⟨gd, od, cd, hde, _, _⟩ := hrd.ptr (by omega)
        simp only [Value.slice.injEq, true_and] at hce hde
        obtain ⟨rfl, rfl⟩ := hce
        obtain ⟨rfl, rfl⟩ := hde
        have hne : gc ≠ gd := fun e => hQ.cd gc rfl (by rw [e]; rfl)
        have hne2 : gd ≠ gc := fun e => hne e.symm
        have hic : i < lc.length := by omega
        have hid : i < ld.length := by omega
        have y1 := hrc.cell (j := i) (u := .int .i64 lc[i]) (by unfold iCells; rw [List.getElem?_map, List.getElem?_eq_getElem hic]; rfl)
        have t1 := hrd.cell (j := i) (u := .int .i64 ld[i]) (by unfold iCells; rw [List.getElem?_map, List.getElem?_eq_getElem hid]; rfl)
        have f1 := hrc.frozen (oc + i)
        have e1 := hrd.frozen (od + i)
        have b1 := World.block_lt_of_cell? _ _ y1
        have b2 := World.block_lt_of_cell? _ _ t1
        have hA := row_int2 hlc hrc i hlt' 203
        have hQA := hQ.upC (by simpa [Value.ownBlock] using hA.2) hA.1 (.inl rfl)
        have hrd' := hQA.rd
        rw [hld] at hrd'
        have hB := row_int2 hld hrd' i hlt' 204
        have hQB := hQA.upD (by simpa [Value.ownBlock] using hB.2) hB.1 (.inl rfl)
        have HQB := Lib.hid hQB
        have J1 := Lib.hid (set_num h1)
        have J2 := Lib.hid (set_num h2)
        have HLC := Lib.hid hlc
        have HLD := Lib.hid hld
        clear hQ hrc hrd hA hQA hrd' hB hQB h1 h2 hlc hld
        go_wp2
        go_roundg (s.ans.length - (i + 1))
        case measure => omega
        case rel => exact ⟨i + 1, _, _, by omega, rfl, by go_num, by rw [List.length_set]; exact HLC.out, by rw [List.length_set]; exact HLD.out, J1.out, J2.out, HQB.out⟩
      · obtain rfl : i = s.ans.length := by omega
        have G1 : Hid (∀ x ∈ lc, x = 203) := fun x hx => by
          obtain ⟨y, hy, rfl⟩ := List.mem_iff_getElem.1 hx
          exact h1 y hy (by omega)
        have G2 : Hid (∀ x ∈ ld, x = 204) := fun x hx => by
          obtain ⟨y, hy, rfl⟩ := List.mem_iff_getElem.1 hx
          exact h2 y hy (by omega)
        have HLC := Lib.hid hlc
        have HLD := Lib.hid hld
        clear h1 h2 hlc hld
        go_wp2
        go_meet
        exact ⟨lc, ld, HLC.out, HLD.out, G1.out, G2.out, hQ⟩
  case rest =>
  clear hQ
  obtain ⟨lc, ld, hlc, hld, hn1, hn2, hQ⟩ := hcut
  have HLC := Lib.hid hlc
  have HLD := Lib.hid hld
  obtain ⟨ua, wA1, ra, a1, a2, a3⟩ := app_mv hQ.ra (by rw [HLA.out]; omega) ⟨0, 0, 201⟩
  have hQa := hQ.upA a2 a1 a3
  obtain ⟨ub, wB1, rb', b1, b2, b3⟩ := app_mv hQa.rb (by rw [HLB.out]; omega) ⟨0, 0, 202⟩
  have hQb := hQa.upB b2 b1 b3
  obtain ⟨uc, wC1, rc', d1, d2, d3⟩ := app_num hQb.rc (by rw [hlc]; omega) 203
  have hQc := hQb.upC d2 d1 d3
  obtain ⟨ud, wD1, rd', e1, e2, e3⟩ := app_num hQc.rd (by rw [hld]; omega) 204
  have hQd := hQc.upD e2 e1 e3
  have m1 : ∀ x ∈ la ++ [⟨0, 0, 201⟩], x.job = 201 := fun x hx => by
    simp at hx
    rcases hx with hx | rfl
    · exact hj1 x hx
    · rfl
  have m2 : ∀ x ∈ lb ++ [⟨0, 0, 202⟩], x.job = 202 := fun x hx => by
    simp at hx
    rcases hx with hx | rfl
    · exact hj2 x hx
    · rfl
  have m3 : ∀ x ∈ lc ++ [203], x = 203 := fun x hx => by
    simp at hx
    rcases hx with hx | rfl
    · exact hn1 x hx
    · rfl
  have m4 : ∀ x ∈ ld ++ [204], x = 204 := fun x hx => by
    simp at hx
    rcases hx with hx | rfl
    · exact hn2 x hx
    · rfl
  have k1 : (la ++ [(⟨0, 0, 201⟩ : Mv)]).length = (lb ++ [(⟨0, 0, 202⟩ : Mv)]).length := by simp [HLA.out, HLB.out]
  have k2 : (lc ++ [203]).length = (ld ++ [204]).length := by simp [hlc, hld]
  have k3 : (la ++ [(⟨0, 0, 201⟩ : Mv)]).length ≤ 300 := by simp [HLA.out]; omega
  have k4 : (lc ++ [203]).length ≤ 70000 := by simp [hlc]; omega
  have HQd := Lib.hid hQd
  have M1 := Lib.hid m1
  have M2 := Lib.hid m2
  have M3 := Lib.hid m3
  have M4 := Lib.hid m4
  have K1 := Lib.hid k1
  have K2 := Lib.hid k2
  clear a1 a2 a3 b1 b2 b3 d1 d2 d3 e1 e2 e3 hQ hQa hQb hQc hQd hlc hld hj1 hj2 hn1 hn2 m1 m2 m3 m4 k1 k2
  dsimp only at ra rb'
  rw [show (((203 : Nat)) : Int) = 203 from rfl] at rc'
  rw [show (((204 : Nat)) : Int) = 204 from rfl] at rd'
  go_upto_region 16 with (fail)
  generalize la ++ [(⟨0, 0, 201⟩ : Mv)] = la2 at *
  generalize lb ++ [(⟨0, 0, 202⟩ : Mv)] = lb2 at *
  generalize lc ++ [203] = lc2 at *
  generalize ld ++ [204] = ld2 at *
  clear ra rb' rc' rd'
  go_cut [12] from 12 to 12 (fun ii wx => ii = .int .i64 0 ∧ wx = wD1)
  case first =>
    go_wp2
    go_meet
    exact ⟨rfl, rfl⟩
  case rest =>
  obtain ⟨rfl, hwe⟩ := hcut
  subst hwe
  go_step
  go_cut [] from 12 to 12 (fun wx => wx = wc)
  case first =>
    have hra := HQd.out.ra
    have hrb := HQd.out.rb
    rw [← K1.out] at hrb
    obtain ⟨aa, acap, hae, _⟩ := hra.slice
    obtain ⟨ba, bcap, hbe, _⟩ := hrb.slice
    subst hae hbe
    go_upto_region 17 with (fail)
    go_loopg [12] la2.length (fun g ii wx => ∃ (i : Nat), i ≤ la2.length ∧ g = la2.length - i ∧ ii = .int .i64 i ∧ wx = wc)
    case atStart => exact ⟨0, by omega, by omega, rfl, rfl⟩
    case round =>
      obtain ⟨i, hi, hgi, rfl, hwx⟩ := hrel
      subst hwx
      by_cases hlt : i < la2.length
      · have hlt' : i < la2.length := hlt
        have hib : i < lb2.length := by have := K1.out; omega
        obtain ⟨ga, oa, ca, hae, _, _⟩ := hra.ptr (by omega)
        obtain ⟨gb, ob, cb, hbe, _, _⟩ := hrb.ptr (by omega)
        simp only [Value.slice.injEq, true_and] at hae hbe
        obtain ⟨rfl, rfl⟩ := hae
        obtain ⟨rfl, rfl⟩ := hbe
        have y3 := hra.cell (mCells_at la2 i hlt').2.2
        have t3 := hrb.cell (mCells_at lb2 i hib).2.2
        rw [M1.out _ (List.getElem_mem hlt'), ← Nat.add_assoc] at y3
        rw [M2.out _ (List.getElem_mem hib), ← Nat.add_assoc] at t3
        have b1 := World.block_lt_of_cell? _ _ y3
        have b2 := World.block_lt_of_cell? _ _ t3
        clear hra hrb
        go_wp2
        go_roundg (la2.length - (i + 1))
        case measure => omega
        case rel => exact ⟨i + 1, by omega, rfl, by go_num, rfl⟩
      · obtain rfl : i = la2.length := by omega
        go_wp2
        go_meet
        rfl
  case rest =>
  subst hcut
  go_upto_region 21 with (fail)
  go_cut [13] from 13 to 13 (fun ii wx => ii = .int .i64 0 ∧ wx = wc)
  case first =>
    go_wp2
    go_meet
    exact ⟨rfl, rfl⟩
  case rest =>
  obtain ⟨rfl, hwe⟩ := hcut
  subst hwe
  go_step
  go_cut [] from 13 to 13 (fun wx => wx = wc)
  case first =>
    have hrc := HQd.out.rc
    have hrd := HQd.out.rd
    rw [← K2.out] at hrd
    obtain ⟨ca, ccap, hce, _⟩ := hrc.slice
    obtain ⟨da, dcap, hde, _⟩ := hrd.slice
    subst hce hde
    go_upto_region 22 with (fail)
    go_loopg [13] lc2.length (fun g ii wx => ∃ (i : Nat), i ≤ lc2.length ∧ g = lc2.length - i ∧ ii = .int .i64 i ∧ wx = wc)
    case atStart => exact ⟨0, by omega, by omega, rfl, rfl⟩
    case round =>
      obtain ⟨i, hi, hgi, rfl, hwx⟩ := hrel
      subst hwx
      by_cases hlt : i < lc2.length
      · have hlt' : i < lc2.length := hlt
        have hid : i < ld2.length := by have := K2.out; omega
        obtain ⟨gc, oc, cc, hce, _, _⟩ := hrc.ptr (by omega)
        obtain ⟨gd, od, cd, hde, _, _⟩ := hrd.ptr (by omega)
        simp only [Value.slice.injEq, true_and] at hce hde
        obtain ⟨rfl, rfl⟩ := hce
        obtain ⟨rfl, rfl⟩ := hde
        have y3 := hrc.cell (j := i) (u := .int .i64 lc2[i]) (by unfold iCells; rw [List.getElem?_map, List.getElem?_eq_getElem hlt']; rfl)
        have t3 := hrd.cell (j := i) (u := .int .i64 ld2[i]) (by unfold iCells; rw [List.getElem?_map, List.getElem?_eq_getElem hid]; rfl)
        rw [M3.out _ (List.getElem_mem hlt'), show (((203 : Nat)) : Int) = 203 from rfl] at y3
        rw [M4.out _ (List.getElem_mem hid), show (((204 : Nat)) : Int) = 204 from rfl] at t3
        have b1 := World.block_lt_of_cell? _ _ y3
        have b2 := World.block_lt_of_cell? _ _ t3
        clear hrc hrd
        go_wp2
        go_roundg (lc2.length - (i + 1))
        case measure => omega
        case rel => exact ⟨i + 1, by omega, rfl, by go_num, rfl⟩
      · obtain rfl : i = lc2.length := by omega
        go_wp2
        go_meet
        rfl
  case rest =>
  subst hcut
  go_upto_region 26 with (fail)
  have kE := HQd.out.chg
  have hk0 := kE.drew
  have C13 := fun (W : World) (hc : Chg [] w1 W) => ((hCM W hc).mono (fun e w' h => by
    obtain ⟨v, h1, h2, h3, _⟩ := h
    exact ⟨v, h1, hc.nil_trans h3, h2⟩) : Calls Try.prog 13 #[.pointer (some ⟨b, 0, none⟩)] W fun e w' => ∃ v, e = .returned v ∧ Chg [] w1 w' ∧ RowIs w' 31 3 v ms.length (mCells ms))
  have C28 := fun (W : World) (hc : Chg [] w1 W) => ((hCA W hc).mono (fun e w' h => by
    obtain ⟨v, h1, h2, h3, _⟩ := h
    exact ⟨v, h1, hc.nil_trans h3, h2⟩) : Calls Try.prog 28 #[.pointer (some ⟨b, 0, none⟩)] W fun e w' => ∃ v, e = .returned v ∧ Chg [] w1 w' ∧ RowIs w' 3 1 v s.ans.length (iCells s.ans))
  have C46 := fun (W : World) (v : Value) (hc : Chg [] w1 W) (hr : RowIs W 31 3 v ms.length (mCells ms)) => ((same_calls W v vw ms (by omega) hr (HW1.out.chg0 hc)).mono (fun e w' h => ⟨h.1, hc.nil_trans h.2⟩) : Calls Try.prog 46 #[v, vw] W fun e w' => e = .returned (.bool true) ∧ Chg [] w1 w')
  have C31 := fun (W : World) (v : Value) (hc : Chg [] w1 W) (hr : RowIs W 3 1 v s.ans.length (iCells s.ans)) => ((list_calls W v rq.lv.av s.ans (by omega) hr (hgot W hc).2.2.2.1).mono (fun e w' h => ⟨h.1, hc.nil_trans h.2⟩) : Calls Try.prog 31 #[v, rq.lv.av] W fun e w' => e = .returned (.bool true) ∧ Chg [] w1 w')
  have hLL := fun (W : World) (hc : Chg [] w1 W) => HL.out.chg0 (HC1.out.nil_trans hc)
  have C12 := fun (W : World) (hc : Chg [] w1 W) => ((gauge_calls W b s q (hLL W hc)).mono (fun e w' h => ⟨h.1, hc.nil_trans h.2⟩) : Calls Try.prog 12 #[.pointer (some ⟨b, 0, none⟩)] W fun e w' => e = .returned (.int .i64 s.gauge) ∧ Chg [] w1 w')
  have C47 := fun (W : World) (hc : Chg [] w1 W) => ((rgauge_calls W rb s rq (hgot W hc)).mono (fun e w' h => ⟨h.1, by rw [h.2]; exact hc⟩) : Calls Try.prog 47 #[.pointer (some ⟨rb, 0, none⟩)] W fun e w' => e = .returned (.int .i64 s.gauge) ∧ Chg [] w1 w')
  have C15 := fun (W : World) (hc : Chg [] w1 W) => ((top_calls W b s q (hLL W hc)).mono (fun e w' h => ⟨h.1, by rw [h.2]; exact hc⟩) : Calls Try.prog 15 #[.pointer (some ⟨b, 0, none⟩)] W fun e w' => e = .returned (.int .i64 s.top) ∧ Chg [] w1 w')
  have C27 := fun (W : World) (hc : Chg [] w1 W) => ((made_calls W b s q (hLL W hc)).mono (fun e w' h => ⟨h.1, by rw [h.2]; exact hc⟩) : Calls Try.prog 27 #[.pointer (some ⟨b, 0, none⟩)] W fun e w' => e = .returned (.int .i64 s.made) ∧ Chg [] w1 w')
  have C23 := fun (W : World) (hc : Chg [] w1 W) => ((gone_calls W b s q (hLL W hc)).mono (fun e w' h => ⟨h.1, hc.nil_trans h.2⟩) : Calls Try.prog 23 #[.pointer (some ⟨b, 0, none⟩)] W fun e w' => e = .returned (.int .i64 s.gone) ∧ Chg [] w1 w')
  have C48 := fun (W : World) (hc : Chg [] w1 W) => ((rgone_calls W rb s rq (hgot W hc)).mono (fun e w' h => ⟨h.1, by rw [h.2]; exact hc⟩) : Calls Try.prog 48 #[.pointer (some ⟨rb, 0, none⟩)] W fun e w' => e = .returned (.int .i64 s.gone) ∧ Chg [] w1 w')
  have C22 := fun (W : World) (hc : Chg [] w1 W) => ((outcome_calls W b s q (hLL W hc)).mono (fun e w' h => ⟨h.1, by rw [h.2]; exact hc⟩) : Calls Try.prog 22 #[.pointer (some ⟨b, 0, none⟩)] W fun e w' => e = .returned (.int .i64 s.out) ∧ Chg [] w1 w')
  have hS : ∀ W : World, Chg [] w1 W → W.cell? ⟨rb, 8, none⟩ = some rq.lv.av ∧ W.cell? ⟨rb, 12, none⟩ = some (.int .i64 s.top) ∧ W.cell? ⟨rb, 11, none⟩ = some (.int .i64 s.made) ∧ W.cell? ⟨rb, 9, none⟩ = some (.int .i64 s.out) := fun W hc => by
    obtain ⟨c0, c1, c2, c3, c4, c5, c6, c7, c8, c9, c10, c11, c12⟩ := (hgot W hc).cells
    exact ⟨c8, c12, c11, c9⟩
  clear hCM hCA hgot hLL kE HQd
  generalize s.gauge = gg at *
  generalize s.gone = gn at *
  go_region_held3 (fun W => W.cell? ⟨rb, 8, none⟩ = some rq.lv.av ∧ W.cell? ⟨rb, 12, none⟩ = some (.int .i64 s.top) ∧ W.cell? ⟨rb, 11, none⟩ = some (.int .i64 s.made) ∧ W.cell? ⟨rb, 9, none⟩ = some (.int .i64 s.out)) (exact hS _ (by assumption))
    (first
      | (go_at_call 13; refine (C13 _ (by assumption)).mono ?_; rintro e w' ⟨v, rfl, hk, hrow⟩)
      | (go_at_call 46; refine (C46 _ _ (by assumption) (by assumption)).mono ?_; rintro e w' ⟨rfl, hk⟩)
      | (go_at_call 28; refine (C28 _ (by assumption)).mono ?_; rintro e w' ⟨v, rfl, hk, hrow⟩)
      | (go_at_call 31; refine (C31 _ _ (by assumption) (by assumption)).mono ?_; rintro e w' ⟨rfl, hk⟩)
      | (go_at_call 12; refine (C12 _ (by assumption)).mono ?_; rintro e w' ⟨rfl, hk⟩)
      | (go_at_call 47; refine (C47 _ (by assumption)).mono ?_; rintro e w' ⟨rfl, hk⟩)
      | (go_at_call 15; refine (C15 _ (by assumption)).mono ?_; rintro e w' ⟨rfl, hk⟩)
      | (go_at_call 27; refine (C27 _ (by assumption)).mono ?_; rintro e w' ⟨rfl, hk⟩)
      | (go_at_call 23; refine (C23 _ (by assumption)).mono ?_; rintro e w' ⟨rfl, hk⟩)
      | (go_at_call 48; refine (C48 _ (by assumption)).mono ?_; rintro e w' ⟨rfl, hk⟩)
      | (go_at_call 22; refine (C22 _ (by assumption)).mono ?_; rintro e w' ⟨rfl, hk⟩))
  all_goals
    go_wp2
    go_ret
    exact ⟨rfl, HC1.out.nil_trans (by assumption)⟩
end Go.Proofs.Ytfmdghijbkddpaa

/- The document's hash: states, sums walked. -/
import Derived.Test.YtogkfjljdmbogaaDoorRfG
import Derived.Test.YtogkfjljdmbogaaDoorRfE
namespace Go.Proofs.YtogkfjljdmbogaaDoor
open Go.RowKit
set_option linter.unusedVariables false
set_option linter.unusedSimpArgs false

def stL (wd : Int) (bs : List (List Nat)) (n : Nat) : List (Array Value) := (List.range n).map fun j => hV (statesN wd bs j)
theorem stL_length (wd : Int) (bs : List (List Nat)) (n : Nat) : (stL wd bs n).length = n := by simp [stL]
theorem stL_succ (wd : Int) (bs : List (List Nat)) (n : Nat) : stL wd bs (n + 1) = stL wd bs n ++ [hV (statesN wd bs n)] := by simp [stL, List.range_succ]
theorem stL_at (wd : Int) (bs : List (List Nat)) (n i : Nat) (h : i < (stL wd bs n).length) : (stL wd bs n)[i] = hV (statesN wd bs i) := by simp [stL]
def StatesP (w : World) (wd : Int) (bs : List (List Nat)) (e : Ending) (w' : World) : Prop := ∃ v, e = .returned v ∧ HOwn w' w.heap.size v (stL wd bs (bs.length + 1)) ∧ Chg [] w w'
attribute [local go_sem ↓] hold_apY
set_option maxRecDepth 100000 in
set_option maxHeartbeats 8000000 in
theorem r2states_calls (w : World) (wd : Int) (bv : Value) (bs : List (List Nat)) (hb : AsIs w bv bs) (hl : bs.length ≤ 100000000) : Calls Tryd.prog 62 #[.int .i64 wd, bv] w (StatesP w wd bs) := by
  obtain ⟨w0, rfl⟩ : ∃ w0 : World, w0 = w := ⟨_, rfl⟩
  obtain ⟨hok, a, cap, rfl, hr⟩ := hb
  have hbg := r2begin_calls w0 wd
  have hs0 := states_ok wd bs 0
  have hI0 := hV_is _ hs0.1 hs0.2
  have hbeg : cutN wd firstN = statesN wd bs 0 := rfl
  rw [hbeg] at hbg
  have hs1 := hI0.1
  have hs2 := hI0.one
  go_enter Tryd.func62, Tryd.ntmps62
  go_wp2_with (go_at_call 71; refine hbg.mono ?_; rintro e w1 ⟨rfl, hc1⟩)
  have hO0 : HOwn (w1.alloc (.cells (hV (statesN wd bs 0)) 26)) w0.heap.size (.slice (some ⟨w1.heap.size, 0, none⟩) 1 1) (stL wd bs 1) := by
    refine ⟨?_, fun h hh => ?_⟩
    · have := own_new w1 w0.heap.size 26 32 1 (hV (statesN wd bs 0)) hc1.size (by rw [hs1]) (by unfold maxLen; omega)
      simpa [stL] using this
    · have : h = hV (statesN wd bs 0) := by simpa [stL] using hh
      rw [this]; exact hI0
  have hC0 : Chg [] w0 (w1.alloc (.cells (hV (statesN wd bs 0)) 26)) := hc1.alloc _
  clear hbg hbeg hs1 hs2 hI0 hs0 hc1
  generalize w1.alloc (.cells (hV (statesN wd bs 0)) 26) = w2 at *
  go_loopg [5, 6] bs.length (fun g vv ii wx => ∃ i : Nat, i ≤ bs.length ∧ g = bs.length - i ∧ ii = .int .i64 i ∧ HOwn wx w0.heap.size vv (stL wd bs (i + 1)) ∧ Chg [] w0 wx)
  case atStart => exact ⟨0, by omega, by omega, rfl, hO0, hC0⟩
  case round =>
    clear hO0 hC0
    obtain ⟨i, hi, hg, rfl, hO, hC⟩ := hrel
    by_cases hlt : i < bs.length
    · have hlt' := hlt
      rcases hr with hr | ⟨pb, po, rfl, hpb, hr⟩
      · subst hr; simp at hlt'
      have hbrow := rng?_chg hC (hr i hlt') (by omega) (by simp)
      obtain ⟨_, ha, hcap, hve, hrw⟩ := hO.hs
      subst hve
      rcases hrw with hrw | ⟨qb, qo, rfl, hqb, hrw⟩
      · have := stL_length wd bs (i + 1); rw [hrw] at this; simp at this
      have hhrow := hrw i (by rw [stL_length]; omega)
      rw [stL_at] at hhrow
      have hst := states_ok wd bs i
      have hbk := hok _ (List.getElem_mem hlt')
      have hnext : compressN wd (statesN wd bs i) bs[i] = statesN wd bs (i + 1) := by
        rw [statesN]
        simp [List.getD, hlt']
      have hcomp := fun W => r2compress_calls W wd (statesN wd bs i) bs[i] hst.1 hbk.1 hst.2 hbk.2
      rw [hnext] at hcomp
      have hstn := states_ok wd bs (i + 1)
      have hIn := hV_is _ hstn.1 hstn.2
      have hsu := stL_succ wd bs (i + 1)
      have hpush := fun (W : World) (hW : Chg [] wr W) => (hO.chg hW (by simp)).push (hV (statesN wd bs (i + 1))) hIn (by rw [stL_length]; omega) (by have := hC.size; have := hW.size; omega) 23
      rw [← hsu] at hpush
      have hol := own_lt hO.1
      rw [stL_length] at hpush ⊢
      have x1 := (hV_is _ hst.1 hst.2).1
      have x2 := (hV_is _ hst.1 hst.2).one
      have x3 : (hV bs[i]).size = 64 := by rw [hV_size]; exact hbk.1
      have x4 : one1 (hV bs[i]) = true := hV_one _
      have x5 := hIn.1
      have x6 := hIn.one
      have lb := World.block_lt_of_cell? _ _ ((rng?_cell hbrow).2 0 (by omega))
      have lq := World.block_lt_of_cell? _ _ ((rng?_cell hhrow).2 0 (by omega))
      have HP := Lib.hid hpush
      have HC := Lib.hid hcomp
      have HG := Lib.hid hg
      have HOL := Lib.hid hol
      have n0 : (0 : Int) ≤ (i : Int) := by omega
      have n1 : (i : Int) < (bs.length : Int) := by omega
      have n2 : (i : Int) < ((i + 1 : Nat) : Int) := by omega
      clear hpush hcomp hg hol hO hnext hsu hst hbk hstn hIn hok hr hrw
      generalize hV (statesN wd bs (i + 1)) = y at *
      generalize hV (statesN wd bs i) = x at *
      generalize hV bs[i] = bk at *
      go_upto_region 5 with (fail)
      go_region_with (go_at_call 72; refine (HC.out _).mono ?_; rintro e w4 ⟨rfl, hc4⟩; have hC4 : Chg [] wr w4 := ((Chg.refl [] wr).drew).nil_trans hc4; obtain ⟨v5, w5, hrun0, hO5, hc5, hob5⟩ := HP.out w4 hC4; have hrun : (apY #[23, 23] 23 #[.slice (some ⟨qb, qo, none⟩) (i + 1) hcap, .slice (some ⟨w4.heap.size, 0, none⟩) 1 1]).run Tryd.prog (w4.alloc (.cells y 26)) = .ok v5 w5 := hrun0; have HO5 := Lib.hid hO5; have HW5 : Chg [] w0 w5 := (hC.nil_trans hC4).trans hc5 (fun j hj => .inr (HOL.out j hj).1); clear hO5 hc5 hob5 hrun0)
      all_goals
        go_wp2
        go_roundg (bs.length - (i + 1))
        case measure => rw [HG.out]; omega
        case rel => exact ⟨i + 1, by omega, rfl, by go_num, HO5.out, HW5⟩
    · obtain rfl : i = bs.length := by omega
      clear hg hr
      go_wp2
      go_ret
      exact ⟨_, rfl, hO, hC⟩
end Go.Proofs.YtogkfjljdmbogaaDoor

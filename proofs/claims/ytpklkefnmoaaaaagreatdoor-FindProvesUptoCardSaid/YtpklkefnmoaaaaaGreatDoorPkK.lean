/- Texts put into one by pack.py: RfH RfI RfJ RfK R3B R3P R3S PsC R3C RfN Rg QTail. -/
import Derived.Lib.QuietBelow
import Derived.StillTailTactics
import Derived.Test.YtpklkefnmoaaaaaGreatDoorPkJ
import Derived.Test.YtpklkefnmoaaaaaGreatDoorRfEp
import Derived.Test.YtpklkefnmoaaaaaGreatDoorPkI
import Derived.Test.YtpklkefnmoaaaaaGreatDoorPkH
import Derived.Test.YtpklkefnmoaaaaaGreatDoorPkF
import Derived.Test.YtpklkefnmoaaaaaGreatDoorPkD
import Derived.Test.YtpklkefnmoaaaaaGreatDoorPkA
/- The document's hash: states, sums walked. -/
namespace Go.Proofs.YtpklkefnmoaaaaaGreatDoor
open Go.RowKit
set_option linter.unusedVariables false
set_option linter.unusedSimpArgs false

def stL (wd : Int) (bs : List (List Nat)) (n : Nat) : List (Array Value) := (List.range n).map fun j => hV (statesN wd bs j)
theorem stL_length (wd : Int) (bs : List (List Nat)) (n : Nat) : (stL wd bs n).length = n := by simp [stL]
theorem stL_succ (wd : Int) (bs : List (List Nat)) (n : Nat) : stL wd bs (n + 1) = stL wd bs n ++ [hV (statesN wd bs n)] := by simp [stL, List.range_succ]
theorem stL_at (wd : Int) (bs : List (List Nat)) (n i : Nat) (h : i < (stL wd bs n).length) : (stL wd bs n)[i] = hV (statesN wd bs i) := by simp [stL]
def StatesP (w : World) (wd : Int) (bs : List (List Nat)) (e : Ending) (w' : World) : Prop := ∃ v, e = .returned v ∧ HOwn w' w.heap.size v (stL wd bs (bs.length + 1)) ∧ Chg [] w w'
attribute [local go_sem ↓] hold_apY
set_option maxRecDepth 100000 in
set_option maxHeartbeats 8000000 in
theorem r2states_calls (w : World) (wd : Int) (bv : Value) (bs : List (List Nat)) (hb : AsIs w bv bs) (hl : bs.length ≤ 100000000) : Calls Tryz.prog 233 #[.int .i64 wd, bv] w (StatesP w wd bs) := by
  obtain ⟨w0, rfl⟩ : ∃ w0 : World, w0 = w := ⟨_, rfl⟩
  obtain ⟨hok, a, cap, rfl, hr⟩ := hb
  have hbg := r2begin_calls w0 wd
  have hs0 := states_ok wd bs 0
  have hI0 := hV_is _ hs0.1 hs0.2
  have hbeg : cutN wd firstN = statesN wd bs 0 := rfl
  rw [hbeg] at hbg
  have hs1 := hI0.1
  have hs2 := hI0.one
  go_enter Tryz.func233, Tryz.ntmps233
  go_wp2_with (go_at_call 266; refine hbg.mono ?_; rintro e w1 ⟨rfl, hc1⟩)
  have hO0 : HOwn (w1.alloc (.cells (hV (statesN wd bs 0)) 36)) w0.heap.size (.slice (some ⟨w1.heap.size, 0, none⟩) 1 1) (stL wd bs 1) := by
    refine ⟨?_, fun h hh => ?_⟩
    · have := own_new w1 w0.heap.size 36 32 1 (hV (statesN wd bs 0)) hc1.size (by rw [hs1]) (by unfold maxLen; omega)
      simpa [stL] using this
    · have : h = hV (statesN wd bs 0) := by simpa [stL] using hh
      rw [this]; exact hI0
  have hC0 : Chg [] w0 (w1.alloc (.cells (hV (statesN wd bs 0)) 36)) := hc1.alloc _
  clear hbg hbeg hs1 hs2 hI0 hs0 hc1
  generalize w1.alloc (.cells (hV (statesN wd bs 0)) 36) = w2 at *
  go_loopg [5, 6] bs.length (fun g vv ii wx => ∃ i : Nat, i ≤ bs.length ∧ g = bs.length - i ∧ ii = .int .i64 i ∧ HOwn wx w0.heap.size vv (stL wd bs (i + 1)) ∧ Chg [] w0 wx)
  case atStart => exact ⟨0, by omega, by omega, rfl, hO0, hC0⟩
  case round =>
    clear hO0 hC0
    obtain ⟨i, hi, hg, rfl, hO, hC⟩ := hrel
    by_cases hlt : i < bs.length
    · have hlt' := hlt
      rcases hr with hr | ⟨pb, po, rfl, hpb, hr⟩
      · subst hr; simp at hlt'
      have hbrow := rng?_chg hC (hr i hlt') (by omega) (by simp)
      obtain ⟨_, ha, hcap, hve, hrw⟩ := hO.hs
      subst hve
      rcases hrw with hrw | ⟨qb, qo, rfl, hqb, hrw⟩
      · have := stL_length wd bs (i + 1); rw [hrw] at this; simp at this
      have hhrow := hrw i (by rw [stL_length]; omega)
      rw [stL_at] at hhrow
      have hst := states_ok wd bs i
      have hbk := hok _ (List.getElem_mem hlt')
      have hnext : compressN wd (statesN wd bs i) bs[i] = statesN wd bs (i + 1) := by
        rw [statesN]
        simp [List.getD, hlt']
      have hcomp := fun W => r2compress_calls W wd (statesN wd bs i) bs[i] hst.1 hbk.1 hst.2 hbk.2
      rw [hnext] at hcomp
      have hstn := states_ok wd bs (i + 1)
      have hIn := hV_is _ hstn.1 hstn.2
      have hsu := stL_succ wd bs (i + 1)
      have hpush := fun (W : World) (hW : Chg [] wr W) => (hO.chg hW (by simp)).push (hV (statesN wd bs (i + 1))) hIn (by rw [stL_length]; omega) (by have := hC.size; have := hW.size; omega) 39
      rw [← hsu] at hpush
      have hol := own_lt hO.1
      rw [stL_length] at hpush ⊢
      have x1 := (hV_is _ hst.1 hst.2).1
      have x2 := (hV_is _ hst.1 hst.2).one
      have x3 : (hV bs[i]).size = 64 := by rw [hV_size]; exact hbk.1
      have x4 : one1 (hV bs[i]) = true := hV_one _
      have x5 := hIn.1
      have x6 := hIn.one
      have lb := World.block_lt_of_cell? _ _ ((rng?_cell hbrow).2 0 (by omega))
      have lq := World.block_lt_of_cell? _ _ ((rng?_cell hhrow).2 0 (by omega))
      have HP := Lib.hid hpush
      have HC := Lib.hid hcomp
      have HG := Lib.hid hg
      have HOL := Lib.hid hol
      have n0 : (0 : Int) ≤ (i : Int) := by omega
      have n1 : (i : Int) < (bs.length : Int) := by omega
      have n2 : (i : Int) < ((i + 1 : Nat) : Int) := by omega
      clear hpush hcomp hg hol hO hnext hsu hst hbk hstn hIn hok hr hrw
      generalize hV (statesN wd bs (i + 1)) = y at *
      generalize hV (statesN wd bs i) = x at *
      generalize hV bs[i] = bk at *
      go_upto_region 5 with (fail)
      go_region_with (go_at_call 267; refine (HC.out _).mono ?_; rintro e w4 ⟨rfl, hc4⟩; have hC4 : Chg [] wr w4 := ((Chg.refl [] wr).drew).nil_trans hc4; obtain ⟨v5, w5, hrun0, hO5, hc5, hob5⟩ := HP.out w4 hC4; have hrun : (apY #[39, 39] 39 #[.slice (some ⟨qb, qo, none⟩) (i + 1) hcap, .slice (some ⟨w4.heap.size, 0, none⟩) 1 1]).run Tryz.prog (w4.alloc (.cells y 36)) = .ok v5 w5 := hrun0; have HO5 := Lib.hid hO5; have HW5 : Chg [] w0 w5 := (hC.nil_trans hC4).trans hc5 (fun j hj => .inr (HOL.out j hj).1); clear hO5 hc5 hob5 hrun0)
      all_goals
        go_wp2
        go_roundg (bs.length - (i + 1))
        case measure => rw [HG.out]; omega
        case rel => exact ⟨i + 1, by omega, rfl, by go_num, HO5.out, HW5⟩
    · obtain rfl : i = bs.length := by omega
      clear hg hr
      go_wp2
      go_ret
      exact ⟨_, rfl, hO, hC⟩
end Go.Proofs.YtpklkefnmoaaaaaGreatDoor

/- The document's hash: sums, Fold, Root walked. -/
namespace Go.Proofs.YtpklkefnmoaaaaaGreatDoor
open Go.RowKit
set_option linter.unusedVariables false
set_option linter.unusedSimpArgs false

theorem stL_last (wd : Int) (l : List Nat) : statesN wd (blocksN (padded l) ((padded l).length / 64)) (blocksN (padded l) ((padded l).length / 64)).length = sumN wd l := by
  rw [states_fold _ _ _ (Nat.le_refl _), List.take_length, sum_blocks]
set_option maxRecDepth 100000 in
set_option maxHeartbeats 4000000 in
theorem r2sum1 (w : World) (wd : Int) (g : Nat) (pv : Value) (l : List Nat) (hg : w.heap[g]? = some (.cells #[pv] 37 (0, 0))) (hv : BsIs w pv l) (hl : l.length ≤ 1000000000) :
    Calls Tryz.prog 205 #[.int .i64 wd, .slice (some ⟨g, 0, none⟩) 1 1] w (Res w [] (.agg (hV (sumN wd l)))) := by
  obtain ⟨w0, rfl⟩ : ∃ w0 : World, w0 = w := ⟨_, rfl⟩
  have hlt := hv.1
  obtain ⟨pa, pcap, rfl⟩ : ∃ a cap, pv = .slice a l.length cap := by obtain ⟨_, a, cap, h, _⟩ := hv; exact ⟨a, cap, h⟩
  have c0 := blk_cell hg 0 rfl
  have hgl := blk_lt hg
  have hm0 := may_alloc_at w0 w0.heap.size 32 zeroHash 36 rfl zeroHash_size
  have k0 : Chg [] w0 (w0.alloc (.cells zeroHash 36)) := (Chg.refl _ _).alloc _
  have hv1 := hv.chg0 k0
  obtain ⟨v1, w1, hr1, h1, c1, b1⟩ := BsIs.append (BOwn.nil (w0.alloc (.cells zeroHash 36)) w0.heap.size) hv1 (by simp; omega) k0.size 37
  rw [List.nil_append] at h1
  have k1 : Chg [] w0 w1 := k0.trans c1 (fun j hj => by simp [ob_nil] at hj)
  have hm1 : may w1 w0.heap.size 0 32 = true := may_chg c1 hm0 (by omega) (by simp [ob_nil])
  have hbl := r2blocks_calls w1 v1 l (h1.bs hlt) hl
  have hso := sum_ok wd l hlt
  have hSi := hV_is _ hso.1 hso.2
  have hst := fun (W : World) (v : Value) (h : AsIs W v (blocksN (padded l) ((padded l).length / 64))) => r2states_calls W wd v _ h (by rw [blocksN_length, padded_length]; unfold padN; omega)
  have hls := stL_last wd l
  have hbl0 : (blocksN (padded l) ((padded l).length / 64)).length ≤ 1000000000 := by rw [blocksN_length, padded_length]; unfold padN; omega
  have s1 := hSi.1
  have s2 := hSi.one
  have HBL := Lib.hid hbl
  have HST := Lib.hid hst
  clear hbl hst h1 hv1 hso hSi hlt hv b1 c1
  generalize hbse : blocksN (padded l) ((padded l).length / 64) = bs at *
  have HBS : Shut (blocksN (padded l) ((padded l).length / 64) = bs) := ⟨hbse⟩
  clear hbse
  have c01 := (k0.cell (p := ⟨g, 0, none⟩) hgl (by simp)).trans c0
  have c11 := (k1.cell (p := ⟨g, 0, none⟩) hgl (by simp)).trans c0
  have hgl0 : g < (w0.alloc (.cells zeroHash 36)).heap.size := by rw [World.size_alloc]; omega
  go_enter Tryz.func205, Tryz.ntmps205
  go_wp2
  go_loopg [5, 6] 1 (fun g' vv ii wx => (g' = 1 ∧ vv = .slice none 0 0 ∧ ii = .int .i64 0 ∧ wx = w0.alloc (.cells zeroHash 36)) ∨ (g' = 0 ∧ vv = v1 ∧ ii = .int .i64 1 ∧ wx = w1))
  case atStart => exact .inl ⟨rfl, rfl, rfl, rfl⟩
  case round =>
    rcases hrel with ⟨hg', rfl, rfl, hw⟩ | ⟨hg', rfl, rfl, hw⟩
    · obtain rfl : w0.alloc (.cells zeroHash 36) = wr := hw.symm
      have HG := Lib.hid hg'
      clear hg'
      go_wp2_with (at_builtin; refine Lib.wpList_append_run _ rfl _ _ _ _ rfl _ _ rfl rfl _ _ hr1 ?_)
      go_roundg 0
      case measure => rw [HG.out]; omega
      case rel => exact .inr ⟨rfl, rfl, rfl, rfl⟩
    · obtain rfl : w1 = wr := hw.symm
      clear hg' hr1
      go_wp2_with fail
      go_at_call 234
      refine HBL.out.mono ?_
      rintro e w2 ⟨bv, rfl, hA, hc2⟩
      rw [HBS.out] at hA
      have hst2 := HST.out w2 bv hA.as
      have HS2 := Lib.hid hst2
      clear hst2 hA
      go_wp2_with fail
      go_at_call 233
      refine HS2.out.mono ?_
      rintro e w3 ⟨sv, rfl, hO, hc3⟩
      obtain ⟨_, ha, hcap, hve, hrw⟩ := hO.hs
      subst hve
      rcases hrw with hrw | ⟨qb, qo, rfl, hqb, hrw⟩
      · have := stL_length wd bs (bs.length + 1); rw [hrw] at this; simp at this
      have hrow := hrw bs.length (by rw [stL_length]; omega)
      rw [stL_at, hls] at hrow
      rw [stL_length]
      have k3 := (k1.nil_trans hc2).nil_trans hc3
      have hm3 := may_chg (hc2.nil_trans hc3) hm1 (by omega) (by simp)
      have lq := World.block_lt_of_cell? _ _ ((rng?_cell hrow).2 0 (by omega))
      have n0 : (0 : Int) ≤ ((bs.length + 1 : Nat) : Int) - 1 := by omega
      have n1 : ((bs.length + 1 : Nat) : Int) - 1 < ((bs.length + 1 : Nat) : Int) := by omega
      have n2 : (((bs.length + 1 : Nat) : Int) - 1).toNat = bs.length := by omega
      have nb : bs.length ≤ 1000000000 := hbl0
      clear hO hrw HS2 HST HBL hls hc2 hc3
      generalize hV (sumN wd l) = S at *
      go_wp2
      refine bodyPost_ret (res_Hash1 rfl _ _ rfl (rng?_setRng_same _ _ _ _ _ hm3 s1)) rfl ⟨rfl, ?_⟩
      exact k3.setRng (.inr (Nat.le_refl _)) _ _
/-! The texts. -/
def TextR (w : World) (l : List Nat) (e : Ending) (w' : World) : Prop := ∃ v, e = .returned v ∧ BsIs w' v l ∧ Chg [] w w'
/-- What two appends to a byte of its own come to. -/
theorem text_runs (W : World) (c : Nat) (hc : c < 256) (s1 s2 : Value) (l r : List Nat) (h1 : BsIs W s1 l) (h2 : BsIs W s2 r) (hl : l.length + r.length ≤ 1000000) :
    ∃ v1 w1 v2 w2, (Builtin.append_ #[37, 37] 37 #[.slice (some ⟨W.heap.size, 0, none⟩) 1 1, s1]).run Tryz.prog (W.alloc (.cells #[.int .u8 c] 5)) = .ok v1 w1 ∧
      (Builtin.append_ #[37, 37] 37 #[v1, s2]).run Tryz.prog w1 = .ok v2 w2 ∧ BsIs w2 v2 (c :: l ++ r) ∧ Chg [] W w2 ∧ Chg [] W w1 := by
  have k0 : Chg [] W (W.alloc (.cells #[.int .u8 c] 5)) := (Chg.refl _ _).alloc _
  have h0 : BOwn (W.alloc (.cells #[.int .u8 c] 5)) W.heap.size (.slice (some ⟨W.heap.size, 0, none⟩) 1 1) [c] := own_new W W.heap.size 5 1 1 #[.int .u8 c] (Nat.le_refl _) rfl (by unfold maxLen; omega)
  obtain ⟨v1, w1, hr1, q1, c1, b1⟩ := BsIs.append h0 (h1.chg0 k0) (by simp; omega) k0.size 37
  have k1 : Chg [] W w1 := k0.trans c1 (fun j hj => .inr (own_lt h0 j hj).1)
  obtain ⟨v2, w2, hr2, q2, c2, b2⟩ := BsIs.append q1 (h2.chg0 k1) (by simp; omega) k1.size 37
  have k2 : Chg [] W w2 := k1.trans c2 (fun j hj => .inr (own_lt q1 j hj).1)
  refine ⟨v1, w1, v2, w2, hr1, hr2, ?_, k2, k1⟩
  have := q2.bs (by
    intro x hx
    simp only [List.mem_append, List.mem_singleton] at hx
    rcases hx with (rfl | h) | h
    · exact hc
    · exact h1.1 x h
    · exact h2.1 x h)
  simpa using this
section
attribute [local go_sem ↓] hold_apY
set_option maxRecDepth 100000 in
theorem r2foldt_calls (w : World) (l r : List Nat) (hl : l.length = 32) (hr : r.length = 32) (hlb : ∀ x ∈ l, x < 256) (hrb : ∀ x ∈ r, x < 256) : Calls Tryz.prog 242 #[.agg (hV l), .agg (hV r)] w (TextR w (2 :: l ++ r)) := by
  have b1 := blk_new w (.cells (hV l) 36)
  have b2 := blk_new (w.alloc (.cells (hV l) 36)) (.cells (hV r) 36)
  rw [World.size_alloc] at b2
  have k0 : Chg [] w ((w.alloc (.cells (hV l) 36)).alloc (.cells (hV r) 36)) := ((Chg.refl _ _).alloc _).alloc _
  have s1 := box_bsG (blk_drew (blk_alloc b1 (.cells (hV r) 36))) hl (by decide) hlb
  have s2 := box_bsG (blk_drew b2) hr (by decide) hrb
  obtain ⟨v1, w1, v2, w2, hr1, hr2, hb, hc, _⟩ := text_runs _ 2 (by omega) _ _ l r s1 s2 (by omega)
  have hrun1 : (apY #[37, 37] 37 #[.slice (some ⟨w.heap.size + 2, 0, none⟩) 1 1, .slice (some ⟨w.heap.size, 0, none⟩) 32 32]).run Tryz.prog ((((w.alloc (.cells (hV l) 36)).alloc (.cells (hV r) 36)).alloc (.cells #[.int .u8 2] 5)).drew) = .ok v1 w1 := by
    have e : (((w.alloc (.cells (hV l) 36)).alloc (.cells (hV r) 36)).drew).heap.size = w.heap.size + 2 := by show ((w.alloc (.cells (hV l) 36)).alloc (.cells (hV r) 36)).heap.size = _; simp
    rw [e] at hr1
    exact hr1
  have hrun2 : (apY #[37, 37] 37 #[v1, .slice (some ⟨w.heap.size + 1, 0, none⟩) 32 32]).run Tryz.prog w1 = .ok v2 w2 := hr2
  have hfin : TextR w (2 :: l ++ r) (.returned v2) w2 := ⟨_, rfl, hb, (k0.drew).nil_trans hc⟩
  have HF := Lib.hid hfin
  clear hfin hb hc hr1 hr2 s1 s2 k0 b1 b2 hlb hrb
  go_enter Tryz.func242, Tryz.ntmps242
  go_upto_region 1 with (fail)
  go_region
  all_goals
    go_wp2
    go_ret
    exact HF.out
end
end Go.Proofs.YtpklkefnmoaaaaaGreatDoor

/- The document's hash: RootText, Fold, Root walked. -/
namespace Go.Proofs.YtpklkefnmoaaaaaGreatDoor
open Go.RowKit
set_option linter.unusedVariables false
set_option linter.unusedSimpArgs false

section
attribute [local go_sem ↓] hold_apY
set_option maxRecDepth 100000 in
set_option maxHeartbeats 4000000 in
theorem r2roott_calls (w : World) (n : Nat) (hn : n < 18446744073709551616) (l : List Nat) (hl : l.length = 32) (hlb : ∀ x ∈ l, x < 256) : Calls Tryz.prog 241 #[.int .u64 n, .agg (hV l)] w (TextR w (3 :: bigN n 8 ++ l)) := by
  obtain ⟨w0, rfl⟩ : ∃ w0 : World, w0 = w := ⟨_, rfl⟩
  have hin : in8 n 8 = List.replicate 8 0 := by unfold in8; rw [List.drop_of_length_le (by rw [bigN_length]; omega), List.append_nil]
  have b1 := blk_alloc (blk_new w0 (.cells (hV l) 36)) (.cells #[.int .u8 0, .int .u8 0, .int .u8 0, .int .u8 0, .int .u8 0, .int .u8 0, .int .u8 0, .int .u8 0] 287)
  have b2 : ((w0.alloc (.cells (hV l) 36)).alloc (.cells #[.int .u8 0, .int .u8 0, .int .u8 0, .int .u8 0, .int .u8 0, .int .u8 0, .int .u8 0, .int .u8 0] 287)).heap[w0.heap.size + 1]? = some (.cells (hV (in8 n 8)) 287 (0, 0)) := by
    have := blk_new (w0.alloc (.cells (hV l) 36)) (.cells #[.int .u8 0, .int .u8 0, .int .u8 0, .int .u8 0, .int .u8 0, .int .u8 0, .int .u8 0, .int .u8 0] 287)
    rw [World.size_alloc] at this
    rw [hin]
    exact this
  have k0 : Chg [] w0 ((w0.alloc (.cells (hV l) 36)).alloc (.cells #[.int .u8 0, .int .u8 0, .int .u8 0, .int .u8 0, .int .u8 0, .int .u8 0, .int .u8 0, .int .u8 0] 287)) := ((Chg.refl _ _).alloc _).alloc _
  clear hin
  go_enter Tryz.func241, Tryz.ntmps241
  go_wp2
  generalize (w0.alloc (.cells (hV l) 36)).alloc (.cells #[.int .u8 0, .int .u8 0, .int .u8 0, .int .u8 0, .int .u8 0, .int .u8 0, .int .u8 0, .int .u8 0] 287) = w2 at *
  go_loopg [0, 6] 8 (fun g xx jj wx => ∃ c : Nat, c ≤ 8 ∧ g = c ∧ jj = .int .i64 ((c : Int) - 1) ∧ xx = .int .u64 (n / 256 ^ (8 - c) : Nat) ∧ wx.heap[w0.heap.size + 1]? = some (.cells (hV (in8 n c)) 287 (0, 0)) ∧ wx.heap[w0.heap.size]? = some (.cells (hV l) 36 (0, 0)) ∧ Chg [] w0 wx)
  case atStart => exact ⟨8, by omega, rfl, rfl, by simp, b2, b1, k0⟩
  case round =>
    clear b1 b2 k0
    obtain ⟨c, hc, hg, rfl, rfl, hbx, hba, hC⟩ := hrel
    cases c with
    | succ k =>
      have hk8 : k < 8 := hc
      have hst := in8_step n k hk8
      have hil := in8_length n (k + 1) (by omega)
      rw [show (((k + 1 : Nat) : Int) - 1) = (k : Int) from by omega, show 8 - (k + 1) = 7 - k from by omega]
      have hdv : n / 256 ^ (8 - k) = n / 256 ^ (7 - k) / 256 := by rw [Nat.div_div_eq_div_mul, ← Nat.pow_succ, show (7 - k).succ = 8 - k from by omega]
      have hxl : n / 256 ^ (7 - k) ≤ n := Nat.div_le_self _ _
      have hcell := blk_cell hbx k (hV_at (in8 n (k + 1)) k (by omega))
      have hfr := blk_frozen hbx k
      have hnb := blk_set hbx k (.int .u8 (n / 256 ^ (7 - k) % 256 : Nat))
      rw [hV_set, hst] at hnb
      have hcx := hC.setCell (p := ⟨w0.heap.size + 1, k, none⟩) (.inr (by show w0.heap.size ≤ w0.heap.size + 1; omega)) (.int .u8 (n / 256 ^ (7 - k) % 256 : Nat))
      have hba2 := blk_far hba (a := ⟨w0.heap.size + 1, k, none⟩) (by simp) (.int .u8 (n / 256 ^ (7 - k) % 256 : Nat))
      have hbl := blk_lt hbx
      generalize n / 256 ^ (7 - k) = x' at *
      have hx64 : x' < 18446744073709551616 := by omega
      have hm : ((x' : Int)) % 256 = ((x' % 256 : Nat) : Int) := by omega
      have hmb : x' % 256 < 256 := Nat.mod_lt _ (by decide)
      generalize x' % 256 = bb at *
      have q0 : (0 : Int) ≤ (k : Int) := by omega
      have q1 : (k : Int) < 8 := by omega
      have HNB := Lib.hid hnb
      have HCX := Lib.hid hcx
      have HDV := Lib.hid hdv
      have HBA := Lib.hid hba2
      have HG := Lib.hid hg
      clear hst hil hnb hcx hdv hbx hC hg hba hba2 hxl hn
      go_wp2
      go_roundg k
      case measure => rw [HG.out]; omega
      case rel => exact ⟨k, by omega, rfl, by go_num, by rw [HDV.out]; go_num, HNB.out, HBA.out, HCX.out⟩
    | zero =>
      rw [in8_end] at hbx
      clear hg
      have s1 : BsIs wr.drew (.slice (some ⟨w0.heap.size + 1, 0, none⟩) 8 8) (bigN n 8) := box_bsG (blk_drew hbx) (bigN_length _ _) (by decide) (bigN_lt _ _)
      have s2 : BsIs wr.drew (.slice (some ⟨w0.heap.size, 0, none⟩) 32 32) l := box_bsG (blk_drew hba) hl (by decide) hlb
      obtain ⟨v1, w1, v2, w3, hr1, hr2, hb, hc3, _⟩ := text_runs _ 3 (by omega) _ _ _ _ s1 s2 (by rw [bigN_length]; omega)
      have hrun1 : (apY #[37, 37] 37 #[.slice (some ⟨wr.heap.size, 0, none⟩) 1 1, .slice (some ⟨w0.heap.size + 1, 0, none⟩) 8 8]).run Tryz.prog ((wr.alloc (.cells #[.int .u8 3] 5)).drew) = .ok v1 w1 := hr1
      have hrun2 : (apY #[37, 37] 37 #[v1, .slice (some ⟨w0.heap.size, 0, none⟩) 32 32]).run Tryz.prog w1 = .ok v2 w3 := hr2
      have hfin : TextR w0 (3 :: bigN n 8 ++ l) (.returned v2) w3 := ⟨_, rfl, hb, (hC.drew).nil_trans hc3⟩
      have HF := Lib.hid hfin
      have hl1 := blk_lt hbx
      have hl2 := blk_lt hba
      clear hfin hb hc3 hr1 hr2 s1 s2 hbx hba hC hlb hn
      go_upto_region 7 with (fail)
      go_region
      all_goals
        go_wp2
        go_ret
        exact HF.out
end
set_option maxRecDepth 100000 in
theorem r2fold_calls (w : World) (wd : Int) (l r : List Nat) (hl : l.length = 32) (hr : r.length = 32) (hlb : ∀ x ∈ l, x < 256) (hrb : ∀ x ∈ r, x < 256) :
    Calls Tryz.prog 215 #[.int .i64 wd, .agg (hV l), .agg (hV r)] w (Res w [] (.agg (hV (foldN wd l r)))) := by
  have hso := sum_ok wd (2 :: l ++ r) (text_lt 2 l r (by decide) hlb hrb)
  have htx := fun W => r2foldt_calls W l r hl hr hlb hrb
  have hsm := fun (W : World) (g : Nat) (pv : Value) (hg : W.heap[g]? = some (.cells #[pv] 37 (0, 0))) (hv : BsIs W pv (2 :: l ++ r)) => r2sum1 W wd g pv _ hg hv (by simp; omega)
  have hc0 : Chg [] w (((w.alloc (.cells (hV l) 36)).alloc (.cells (hV r) 36)).alloc (.cells zeroHash 36)) := (((Chg.refl _ _).alloc _).alloc _).alloc _
  have hm0 : may (((w.alloc (.cells (hV l) 36)).alloc (.cells (hV r) 36)).alloc (.cells zeroHash 36)) (w.heap.size + 2) 0 32 = true := by
    have := may_alloc_at ((w.alloc (.cells (hV l) 36)).alloc (.cells (hV r) 36)) _ 32 zeroHash 36 rfl zeroHash_size
    simpa using this
  have hSM : foldN wd l r = sumN wd (2 :: l ++ r) := rfl
  rw [hSM]
  clear hlb hrb hSM
  have hs1 := (hV_is _ hso.1 hso.2).1
  have hs2 := (hV_is _ hso.1 hso.2).one
  generalize sumN wd (2 :: l ++ r) = sm at *
  go_enter Tryz.func215, Tryz.ntmps215
  go_wp2_with fail
  go_at_call 242
  refine (htx _).mono ?_
  rintro e w1 ⟨v, rfl, hv, hc1⟩
  obtain ⟨va, vn, vc, rfl⟩ := hv.form
  have hm1 := may_chg hc1 hm0 (by omega) (by simp)
  have hC1 := hc0.nil_trans hc1
  have hsu := hsm (w1.alloc (.cells #[.slice va vn vc] 37)) w1.heap.size (.slice va vn vc) (blk_new w1 _) (hv.chg0 ((Chg.refl [] w1).alloc _))
  have hm2 : may (w1.alloc (.cells #[.slice va vn vc] 37)) (w.heap.size + 2) 0 32 = true := may_chg ((Chg.refl [] w1).alloc _) hm1 (by omega) (by simp)
  clear hv hsm htx hso
  go_wp2_with fail
  go_at_call 205
  refine hsu.mono ?_
  rintro e w3 ⟨rfl, hc3⟩
  have hm3 := may_chg hc3 hm2 (by omega) (by simp)
  go_wp2
  refine bodyPost_ret (res_Hash1 rfl _ _ rfl (rng?_setRng_same _ _ _ _ _ hm3 hs1)) rfl ⟨rfl, ?_⟩
  exact Chg.setRng ((hC1.alloc _).nil_trans hc3) (.inr (by show w.heap.size ≤ w.heap.size + 2; omega)) _ _
set_option maxRecDepth 100000 in
theorem r2root_calls (w : World) (wd : Int) (n : Nat) (hn : n < 18446744073709551616) (l : List Nat) (hl : l.length = 32) (hlb : ∀ x ∈ l, x < 256) :
    Calls Tryz.prog 214 #[.int .i64 wd, .int .u64 n, .agg (hV l)] w (Res w [] (.agg (hV (rootN wd n l)))) := by
  have hso := sum_ok wd (3 :: bigN n 8 ++ l) (text_lt 3 _ l (by decide) (bigN_lt _ _) hlb)
  have htx := fun W => r2roott_calls W n hn l hl hlb
  have hsm := fun (W : World) (g : Nat) (pv : Value) (hg : W.heap[g]? = some (.cells #[pv] 37 (0, 0))) (hv : BsIs W pv (3 :: bigN n 8 ++ l)) => r2sum1 W wd g pv _ hg hv (by simp [bigN_length]; omega)
  have hc0 : Chg [] w ((w.alloc (.cells (hV l) 36)).alloc (.cells zeroHash 36)) := ((Chg.refl _ _).alloc _).alloc _
  have hm0 : may ((w.alloc (.cells (hV l) 36)).alloc (.cells zeroHash 36)) (w.heap.size + 1) 0 32 = true := by
    have := may_alloc_at (w.alloc (.cells (hV l) 36)) _ 32 zeroHash 36 rfl zeroHash_size
    simpa using this
  have hSM : rootN wd n l = sumN wd (3 :: bigN n 8 ++ l) := rfl
  rw [hSM]
  clear hlb hSM
  have hs1 := (hV_is _ hso.1 hso.2).1
  have hs2 := (hV_is _ hso.1 hso.2).one
  generalize sumN wd (3 :: bigN n 8 ++ l) = sm at *
  go_enter Tryz.func214, Tryz.ntmps214
  go_wp2_with fail
  go_at_call 241
  refine (htx _).mono ?_
  rintro e w1 ⟨v, rfl, hv, hc1⟩
  obtain ⟨va, vn, vc, rfl⟩ := hv.form
  have hm1 := may_chg hc1 hm0 (by omega) (by simp)
  have hC1 := hc0.nil_trans hc1
  have hsu := hsm (w1.alloc (.cells #[.slice va vn vc] 37)) w1.heap.size (.slice va vn vc) (blk_new w1 _) (hv.chg0 ((Chg.refl [] w1).alloc _))
  have hm2 : may (w1.alloc (.cells #[.slice va vn vc] 37)) (w.heap.size + 1) 0 32 = true := may_chg ((Chg.refl [] w1).alloc _) hm1 (by omega) (by simp)
  clear hv hsm htx hso
  go_wp2_with fail
  go_at_call 205
  refine hsu.mono ?_
  rintro e w3 ⟨rfl, hc3⟩
  have hm3 := may_chg hc3 hm2 (by omega) (by simp)
  go_wp2
  refine bodyPost_ret (res_Hash1 rfl _ _ rfl (rng?_setRng_same _ _ _ _ _ hm3 hs1)) rfl ⟨rfl, ?_⟩
  exact Chg.setRng ((hC1.alloc _).nil_trans hc3) (.inr (by show w.heap.size ≤ w.heap.size + 1; omega)) _ _
end Go.Proofs.YtpklkefnmoaaaaaGreatDoor

/- The document's places: Power, Tops walked. -/
namespace Go.Proofs.YtpklkefnmoaaaaaGreatDoor
open Go.RowKit
set_option linter.unusedVariables false
set_option linter.unusedSimpArgs false

theorem r3power_calls (n : Nat) (hn : n ≤ 62) (w : World) : Calls Tryz.prog 174 #[.int .i64 n] w fun e w' => e = .returned (.int .u64 (2 ^ n : Nat)) ∧ w' = w := by
  go_enter Tryz.func174, Tryz.ntmps174
  go_wp2
  go_loopg [3, 4] n (fun g pp ii wx => ∃ i : Nat, i ≤ n ∧ g = n - i ∧ pp = .int .u64 (2 ^ i : Nat) ∧ ii = .int .i64 i ∧ wx = w)
  case atStart => exact ⟨0, by omega, by omega, rfl, rfl, rfl⟩
  case round =>
    obtain ⟨i, hi, hg, rfl, rfl, hw⟩ := hrel
    obtain rfl : w = wr := hw.symm
    by_cases hlt : i < n
    · have hlt' := hlt
      have hp := Nat.pow_le_pow_right (show 0 < 2 from by omega) (show i ≤ 61 from by omega)
      have hs : 2 ^ (i + 1) = 2 * 2 ^ i := by rw [Nat.pow_succ]; omega
      have HS := Lib.hid hs
      have HG := Lib.hid hg
      clear hs hg
      generalize 2 ^ i = P at *
      have hp2 : P ≤ 2305843009213693952 := hp
      go_wp2
      go_roundg (n - (i + 1))
      case measure => rw [HG.out]; omega
      case rel => exact ⟨i + 1, by omega, rfl, by rw [HS.out]; go_num, by go_num, rfl⟩
    · obtain rfl : i = n := by omega
      clear hg
      go_wp2
      go_ret
      exact ⟨rfl, rfl⟩
/-- The spots of the peaks of the c greatest heights. -/
def toL (n c : Nat) : List (Nat × Nat) := (((List.range c).map (62 - ·)).filter (fun h => n / 2 ^ h % 2 == 1)).map fun h => (h, n / 2 ^ h - 1)
theorem toL_succ (n c : Nat) : toL n (c + 1) = if n / 2 ^ (62 - c) % 2 = 1 then toL n c ++ [(62 - c, n / 2 ^ (62 - c) - 1)] else toL n c := by
  unfold toL
  rw [List.range_succ, List.map_append, List.filter_append, List.map_append]
  by_cases h : n / 2 ^ (62 - c) % 2 = 1
  · rw [if_pos h]; simp [h]
  · rw [if_neg h]; simp [h]
def topsN (n : Nat) : List (Nat × Nat) := toL n 63
theorem toL_len (n c : Nat) : (toL n c).length = (pkL n c).length := by unfold toL pkL; simp
theorem toL_le (n c : Nat) : (toL n c).length ≤ c := by rw [toL_len]; exact pkL_len n c
theorem tops_length (n : Nat) (hn : n < 2 ^ 63) : (topsN n).length = popc n := by
  rw [← peaks_length n hn]
  exact toL_len n 63
/-! Rows of spots of the call's own. -/
def spC (l : List (Nat × Nat)) : List Value := l.flatMap fun x => [.int .u8 (x.1 : Int), .int .u64 (x.2 : Int)]
theorem u_spots : Tryz.prog.underlying 185 = some (.slice 178) := by kernel_rfl
theorem i_Spot : (Tryz.prog.info? 178).map (fun i => (i.zero, i.size, i.bytes)) = some (some (.agg #[.int .u8 0, .int .u64 0]), 2, 16) := by kernel_rfl
def SpOwn (w : World) (B : Nat) (v : Value) (l : List (Nat × Nat)) : Prop := w.ownsRow B 178 2 v l.length (spC l)
theorem SpOwn.nil (w : World) (B : Nat) : SpOwn w B (.slice none 0 0) [] := own_nil _ _ _ _
theorem SpOwn.push {w : World} {B : Nat} {v : Value} {l : List (Nat × Nat)} (h : SpOwn w B v l) (x : Nat × Nat) (hlen : l.length ≤ 1000000) (hB : B ≤ w.heap.size) (ty : TypeId) :
    ∃ v' w', (Builtin.append_ #[185, 185] ty #[v, .slice (some ⟨w.heap.size, 0, none⟩) 1 1]).run Tryz.prog (w.alloc (.cells #[.int .u8 (x.1 : Int), .int .u64 (x.2 : Int)] 178)) = .ok v' w' ∧ SpOwn w' B v' (l ++ [x]) ∧ Chg (ob v) w w' := by
  obtain ⟨i, hi, hz, hsz, hby⟩ := infoOf i_Spot
  have hc : Chg [] w (w.alloc (.cells #[.int .u8 (x.1 : Int), .int .u64 (x.2 : Int)] 178)) := (Chg.refl _ _).alloc _
  have h1 := own_chg h hc (by simp)
  obtain ⟨v', w', hr, h2, h3, h4⟩ := run_append_any (P := Tryz.prog) (w.alloc (.cells #[.int .u8 (x.1 : Int), .int .u64 (x.2 : Int)] 178)) B 185 ty 178 i _ 2 16 u_spots hi hz hsz hby rfl (by decide) v l.length _ h1 (some ⟨w.heap.size, 0, none⟩) 1 1 [.int .u8 (x.1 : Int), .int .u64 (x.2 : Int)]
    ⟨rfl, fun _ => ⟨w.heap.size, 0, rfl, fun j u hu => by
      rw [Nat.zero_add]
      refine blk_cell (blk_new w _) j ?_
      match j, hu with
      | 0, hu => simpa using hu
      | 1, hu => simpa using hu
      | j + 2, hu => simp at hu⟩⟩ (by intro u hu; simp at hu; rcases hu with rfl | rfl <;> rfl) (by unfold maxLen; omega) (by omega) (by have := hc.size; omega)
  refine ⟨v', w', hr, ?_, hc.of_nil.trans h3 (fun k hk => .inl hk)⟩
  unfold SpOwn
  rw [List.length_append, show spC (l ++ [x]) = spC l ++ [.int .u8 (x.1 : Int), .int .u64 (x.2 : Int)] from by simp [spC]]
  exact h2
def TopsP (w : World) (n : Nat) (e : Ending) (w' : World) : Prop := ∃ v, e = .returned v ∧ SpOwn w' w.heap.size v (topsN n) ∧ Chg [] w w'
theorem half_pow (n h : Nat) : n / 2 ^ (h + 1) = n / 2 ^ h / 2 := by rw [Nat.div_div_eq_div_mul, ← Nat.pow_succ]
theorem tops_step (n h : Nat) (hn : n ≤ 4611686018427387904) : ∃ P A q : Nat, P = 2 ^ h ∧ A = n / 2 ^ (h + 1) * 2 ^ (h + 1) ∧ 0 < P ∧ A ≤ n ∧
    (n / 2 ^ h % 2 = 1 → A + P ≤ n ∧ n / 2 ^ h * 2 ^ h = A + P ∧ n / 2 ^ h - 1 = q ∧ A / P = q ∧ q ≤ 4611686018427387904) ∧ (¬ n / 2 ^ h % 2 = 1 → n < A + P ∧ n / 2 ^ h * 2 ^ h = A) := by
  have hP := Nat.two_pow_pos h
  have h2 : n / 2 ^ (h + 1) * 2 ^ (h + 1) = n / 2 ^ h / 2 * 2 * 2 ^ h := by rw [half_pow, Nat.pow_succ, Nat.mul_assoc, Nat.mul_comm (2 ^ h) 2]
  have hle := Nat.div_mul_le_self n (2 ^ h)
  have hlt := Nat.lt_div_mul_add (a := n) hP
  have hle2 := Nat.div_mul_le_self n (2 ^ (h + 1))
  refine ⟨2 ^ h, _, n / 2 ^ h / 2 * 2, rfl, rfl, hP, hle2, ?_, ?_⟩
  · intro hb
    rw [h2] at hle2 ⊢
    generalize 2 ^ h = P at *
    generalize n / P = k at *
    have hk : k = k / 2 * 2 + 1 := by clear hle hlt hle2 h2; omega
    have hs : k * P = k / 2 * 2 * P + P := by rw [← Nat.succ_mul, Nat.succ_eq_add_one, ← hk]
    have hdv : k / 2 * 2 * P / P = k / 2 * 2 := Nat.mul_div_cancel _ hP
    have hq := Nat.le_mul_of_pos_right (k / 2 * 2) hP
    generalize k / 2 * 2 = q at *
    subst hk
    exact ⟨by rw [← hs]; exact hle, hs, by rw [Nat.add_sub_cancel], hdv, Nat.le_trans hq (Nat.le_trans hle2 hn)⟩
  · intro hb
    rw [h2] at hle2 ⊢
    generalize 2 ^ h = P at *
    generalize n / P = k at *
    have hk : k = k / 2 * 2 := by clear hle hlt hle2 h2; omega
    rw [← hk]
    exact ⟨hlt, rfl⟩
set_option maxRecDepth 100000 in
set_option maxHeartbeats 4000000 in
theorem r3tops_calls (n : Nat) (hn : n ≤ 4611686018427387904) (w : World) : Calls Tryz.prog 131 #[.int .u64 n] w (TopsP w n) := by
  obtain ⟨w0, rfl⟩ : ∃ w0 : World, w0 = w := ⟨_, rfl⟩
  have hnd : decide ((4611686018427387904 : Int) < (n : Int)) = false := decide_eq_false (by omega)
  have hn63 : n / 2 ^ 63 = 0 := Nat.div_eq_of_lt (by have : (2 : Nat) ^ 63 = 9223372036854775808 := by decide
                                                     omega)
  go_enter Tryz.func131, Tryz.ntmps131
  go_wp2
  go_loopg [3, 4, 5] 63 (fun g vv aa hh wx => ∃ c : Nat, c ≤ 63 ∧ g = 63 - c ∧ hh = .int .i64 (62 - (c : Int)) ∧ aa = .int .u64 (n / 2 ^ (63 - c) * 2 ^ (63 - c) : Nat) ∧ SpOwn wx w0.heap.size vv (toL n c) ∧ Chg [] w0 wx)
  case atStart => exact ⟨0, by omega, rfl, rfl, by rw [Nat.sub_zero, hn63]; simp, SpOwn.nil _ _, Chg.refl _ _⟩
  case round =>
    obtain ⟨c, hc, hg, rfl, rfl, hO, hC⟩ := hrel
    by_cases h63 : c = 63
    · subst h63
      clear hg
      go_wp2
      go_ret
      exact ⟨_, rfl, hO, hC⟩
    · have hcl : c ≤ 62 := by omega
      have hsu := toL_succ n c
      have hlen := toL_le n c
      have ec : ((62 - c : Nat) : Int) = 62 - (c : Int) := by omega
      obtain ⟨h, hh⟩ : ∃ h, h = 62 - c := ⟨_, rfl⟩
      rw [← hh] at hsu ec
      have hnx : n / 2 ^ (63 - (c + 1)) * 2 ^ (63 - (c + 1)) = n / 2 ^ h * 2 ^ h := by rw [show 63 - (c + 1) = h from by omega]
      rw [← ec, show 63 - c = h + 1 from by omega]
      have h62 : h ≤ 62 := by omega
      have hpw := fun W => r3power_calls h h62 W
      have hp4 : 2 ^ h ≤ 4611686018427387904 := Nat.pow_le_pow_right (show 0 < 2 from by omega) h62
      obtain ⟨P, A, q, eP, eA, hP, hAn, hyes, hno⟩ := tops_step n h hn
      rw [← eA]
      rw [← eP] at hpw hp4
      have HH := Lib.hid hh
      have HG := Lib.hid hg
      clear ec
      by_cases hb : n / 2 ^ h % 2 = 1
      · replace hsu := hsu.trans (if_pos hb)
        obtain ⟨hAP, hnn, hq, hdv, hq4⟩ := hyes hb
        rw [hnn] at hnx
        rw [hq] at hsu
        have HNX := Lib.hid hnx
        have HSU := Lib.hid hsu
        have hdi : (A : Int) / (P : Int) = (q : Int) := by rw [← Int.natCast_ediv, hdv]
        have hge : decide ((P : Int) ≤ (n : Int) - (A : Int)) = true := decide_eq_true (by clear hyes hno hsu hnx hdv hdi hq hnn eP eA hb; omega)
        clear hyes hno hsu hnx hdv hq hnn eP eA hb hh hg hn63
        go_upto_region 9 with (go_at_call 174; refine (hpw _).mono ?_; rintro e w1 ⟨rfl, hw1⟩; obtain rfl : wr = w1 := hw1.symm)
        obtain ⟨v2, w2, hrun, hO2, hc2⟩ := SpOwn.push hO (h, q) (by omega) hC.size 185
        have hol := own_lt hO
        have HW : Chg [] w0 w2 := hC.trans hc2 (fun k hk => .inr (hol k hk).1)
        have HO2 := Lib.hid hO2
        clear hO hol hO2 hc2
        go_wp2_with (first
          | (go_at_call 174; refine (hpw _).mono ?_; rintro e w3 ⟨rfl, hw3⟩; first | obtain rfl : wr = w3 := hw3.symm | obtain rfl : w2 = w3 := hw3.symm)
          | (at_builtin; refine Lib.wpList_append_run _ rfl _ _ _ _ rfl _ _ rfl rfl _ _ hrun ?_))
        go_roundg (63 - (c + 1))
        case measure => rw [HG.out]; omega
        case rel => exact ⟨c + 1, by omega, rfl, by rw [show (h : Int) - 1 = 62 - ((c + 1 : Nat) : Int) from by have := HH.out; omega], by rw [HNX.out]; go_num, by rw [HSU.out]; exact HO2.out, HW⟩
      · replace hsu := hsu.trans (if_neg hb)
        obtain ⟨hAP, hnn⟩ := hno hb
        rw [hnn] at hnx
        have HNX := Lib.hid hnx
        have HSU := Lib.hid hsu
        have hge : decide ((P : Int) ≤ (n : Int) - (A : Int)) = false := decide_eq_false (by clear hyes hno hsu hnx hnn eP eA hb; omega)
        clear hyes hno hsu hnx hnn eP eA hb hh hg hn63
        go_wp2_with (go_at_call 174; refine (hpw _).mono ?_; rintro e w1 ⟨rfl, hw1⟩; obtain rfl : wr = w1 := hw1.symm)
        go_roundg (63 - (c + 1))
        case measure => rw [HG.out]; omega
        case rel => exact ⟨c + 1, by omega, rfl, by rw [show (h : Int) - 1 = 62 - ((c + 1 : Nat) : Int) from by have := HH.out; omega], by rw [HNX.out], by rw [HSU.out]; exact hO, hC⟩
end Go.Proofs.YtpklkefnmoaaaaaGreatDoor

/- The document's Place walked . -/
namespace Go.Proofs.YtpklkefnmoaaaaaGreatDoor
open Go.RowKit
set_option linter.unusedVariables false
set_option linter.unusedSimpArgs false
set_option maxRecDepth 100000 in
set_option maxHeartbeats 4000000 in
theorem r3place_calls (h k : Nat) (hh : h ≤ 62) (hk : k < 2 ^ (62 - h)) (w : World) : Calls Tryz.prog 133 #[.agg #[.int .u8 h, .int .u64 k]] w (Res w [] (.tuple #[.int .u64 (nodesN ((k + 1) * 2 ^ h - 1) + h : Nat), .bool true])) := by
  have hpw : 2 ^ (62 - h) * 2 ^ h = 4611686018427387904 := by rw [← Nat.pow_add, Nat.sub_add_cancel hh]
  have hle : (k + 1) * 2 ^ h ≤ 4611686018427387904 := by rw [← hpw]; exact Nat.mul_le_mul_right _ hk
  have hP := Nat.two_pow_pos h
  have hk1 := Nat.le_mul_of_pos_right (k + 1) hP
  have hN := nodes_le ((k + 1) * 2 ^ h - 1)
  have hpa := fun W => r3power_calls (62 - h) (by omega) W
  have hpb := fun W => r3power_calls h hh W
  have hno := fun W => r3nodes_calls ((k + 1) * 2 ^ h - 1) (by omega) W
  have e62 : (((62 - h : Nat)) : Int) = 62 - (h : Int) := by omega
  rw [e62] at hpa
  have hd : decide ((62 : Int) < (h : Int)) = false := by simp; omega
  have hd2 : decide (2 ^ (62 - h) ≤ k) = false := decide_eq_false (by omega)
  have hmm : ((k : Int) + 1) * ((2 ^ h : Nat) : Int) = (((k + 1) * 2 ^ h : Nat) : Int) := by rw [Int.natCast_mul]; rfl
  have hm1 : (((k + 1) * 2 ^ h - 1 : Nat) : Int) = (((k + 1) * 2 ^ h : Nat) : Int) - 1 := by omega
  have hkb : k < 4611686018427387904 := by omega
  have hres : ((nodesN ((k + 1) * 2 ^ h - 1) + h : Nat) : Int) = (nodesN ((k + 1) * 2 ^ h - 1) : Int) + (h : Int) := by omega
  rw [hm1] at hno
  rw [hres]
  have hM1 : 1 ≤ (k + 1) * 2 ^ h := by omega
  have hnb : nodesN ((k + 1) * 2 ^ h - 1) ≤ 9223372036854775806 := by omega
  clear hN hm1 hres e62 hpw hk1 hk
  generalize nodesN ((k + 1) * 2 ^ h - 1) = NN at *
  generalize (k + 1) * 2 ^ h = M at *
  generalize 2 ^ (62 - h) = A at *
  generalize 2 ^ h = Q at *
  go_enter Tryz.func133, Tryz.ntmps133
  go_upto_region 2 with (fail)
  have b1 := blk_new w (.cells #[.int .u8 h, .int .u64 k] 178)
  have hcw : Chg [] w (w.alloc (.cells #[.int .u8 h, .int .u64 k] 178)) := (Chg.refl _ _).alloc _
  generalize w.alloc (.cells #[.int .u8 h, .int .u64 k] 178) = w1 at *
  generalize w.heap.size = g at *
  have c1 : ∀ n, (w1.drewN n).cell? ⟨g, 1, none⟩ = some (.int .u64 k) := fun n => blk_cell b1 1 rfl
  go_quiet ((go_at_call 174; exact Calls.quiet_of_same (hpa _)))
  have hcq := hcw.drewN nq
  have b2 := blk_drewN b1 nq
  generalize w1.drewN nq = w2 at *
  clear c1 b1 hpa
  go_upto_region 4 with (fail)
  have c2 : ∀ n, (w2.drewN n).cell? ⟨g, 1, none⟩ = some (.int .u64 k) := fun n => blk_cell b2 1 rfl
  go_quiet (first
    | (go_at_call 174; exact Calls.quiet_of_same (hpb _))
    | (go_at_call 157; exact Calls.quiet_of_same (hno _)))
  clear hpb hno c2
  go_wp2
  go_ret2
  exact ⟨rfl, hcq.drewN _⟩
end Go.Proofs.YtpklkefnmoaaaaaGreatDoor

/- The descent to a place (plain). -/
namespace Go.Proofs.YtpklkefnmoaaaaaGreatDoor
set_option linter.unusedVariables false
set_option linter.unusedSimpArgs false
theorem nodes_block (h k j : Nat) (hj : j < 2 ^ h) : nodesN (2 ^ h * k + j) = nodesN (2 ^ h * k) + nodesN j := by
  have h1 := popc_high h j k hj
  have h2 := popc_high h 0 k (Nat.two_pow_pos h)
  rw [popc_zero, Nat.add_zero, Nat.add_zero] at h2
  have h3 := popc_le_self (2 ^ h * k)
  have h4 := popc_le_self j
  unfold nodesN
  rw [h1, h2]
  rw [h2] at h3
  omega
theorem block_half (h k : Nat) : nodesN (2 ^ h * (2 * k + 1)) = nodesN (2 ^ (h + 1) * k) + (2 * 2 ^ h - 1) := by
  have := nodes_block (h + 1) k (2 ^ h) (by rw [Nat.pow_succ]; have := Nat.two_pow_pos h; omega)
  rw [show 2 ^ h * (2 * k + 1) = 2 ^ (h + 1) * k + 2 ^ h from by rw [Nat.pow_succ, Nat.mul_add, Nat.mul_one, Nat.mul_assoc], this, nodes_pow0, Nat.pow_succ, Nat.mul_comm (2 ^ h) 2]
/-- Which half a place lies in. -/
theorem half_side (i r m : Nat) (hr : r ≤ t1 i) : nodesN m ≤ nodesN i + r ↔ m ≤ i := by
  constructor
  · intro h
    by_cases q : m ≤ i
    · exact q
    · have h1 := nodes_mono (show i + 1 ≤ m from by omega)
      have h2 := nodes_succ i
      omega
  · intro h
    have := nodes_mono h
    omega
end Go.Proofs.YtpklkefnmoaaaaaGreatDoor

/- The descent to a place, each step of it; the left sibling's place (plain). -/
namespace Go.Proofs.YtpklkefnmoaaaaaGreatDoor
set_option linter.unusedVariables false
set_option linter.unusedSimpArgs false
theorem t1_mod : ∀ (r i : Nat), r ≤ t1 i → i = 2 ^ r * (i / 2 ^ r) + (2 ^ r - 1)
  | 0, i, _ => by simp
  | r + 1, i, h => by
    rcases two_cases i with ⟨k, rfl⟩ | ⟨k, rfl⟩
    · rw [t1_even] at h; omega
    · rw [t1_odd] at h
      have ih := t1_mod r k (by omega)
      have hp := Nat.two_pow_pos r
      have e : (2 * k + 1) / 2 ^ (r + 1) = k / 2 ^ r := by
        rw [Nat.pow_succ, Nat.mul_comm (2 ^ r) 2, ← Nat.div_div_eq_div_mul, show (2 * k + 1) / 2 = k from by omega]
      rw [e, Nat.pow_succ]
      generalize k / 2 ^ r = q at *
      have : 2 ^ r * 2 * q = 2 * (2 ^ r * q) := by rw [Nat.mul_comm (2 ^ r) 2, Nat.mul_assoc]
      omega
theorem t1_full (h : Nat) : t1 (2 ^ h - 1) = h := by
  have h1 := t1_pow h 1 (by omega)
  rw [Nat.one_mul] at h1
  have h2 := t1_pow_le (2 ^ h - 1)
  have h3 := Nat.two_pow_pos h
  rw [Nat.sub_add_cancel h3] at h2
  by_cases q : t1 (2 ^ h - 1) = h
  · exact q
  · have h4 := Nat.pow_lt_pow_right (show 1 < 2 from by omega) (show h < t1 (2 ^ h - 1) from by omega)
    omega
theorem nodes_full (h : Nat) : nodesN (2 ^ h - 1) + h + 1 = 2 * 2 ^ h - 1 := by
  have h1 := nodes_succ (2 ^ h - 1)
  rw [t1_full, Nat.sub_add_cancel (Nat.two_pow_pos h), nodes_pow0, Nat.pow_succ] at h1
  omega
theorem place_uniq {i r m h : Nat} (hr : r ≤ t1 i) (hh : h ≤ t1 m) (e : nodesN i + r = nodesN m + h) : i = m ∧ r = h := by
  have h1 := (half_side i r m hr).1 (by omega)
  have h2 := (half_side m h i hh).1 (by omega)
  obtain rfl : i = m := by omega
  exact ⟨rfl, by omega⟩
/-- The last place under a node is its own. -/
theorem spot_meets (i r h k : Nat) (hr : r ≤ t1 i) (hk : i / 2 ^ h = k) : nodesN i + r = nodesN (2 ^ h * k) + 2 * (2 ^ h - 1) ↔ r = h := by
  have hp := Nat.two_pow_pos h
  have h1 := nodes_block h k (2 ^ h - 1) (by omega)
  have h2 := nodes_full h
  have h3 : nodesN (2 ^ h * k) + 2 * (2 ^ h - 1) = nodesN (2 ^ h * k + (2 ^ h - 1)) + h := by omega
  rw [h3]
  have h4 := t1_pow h (k + 1) (by omega)
  rw [Nat.mul_comm, Nat.mul_add, Nat.mul_one, Nat.add_sub_assoc hp] at h4
  constructor
  · intro e
    exact (place_uniq hr h4 e).2
  · rintro rfl
    have := t1_mod r i hr
    rw [hk] at this
    exact congrArg (nodesN · + r) this
/-- One step down. -/
theorem spot_down (i r g k : Nat) (hr : r ≤ t1 i) (hk : i / 2 ^ (g + 1) = k) :
    (nodesN (2 ^ (g + 1) * k) + (2 ^ (g + 1) - 1) ≤ nodesN i + r ∧ i / 2 ^ g = 2 * k + 1 ∧ nodesN (2 ^ (g + 1) * k) + (2 ^ (g + 1) - 1) = nodesN (2 ^ g * (2 * k + 1))) ∨
    (nodesN i + r < nodesN (2 ^ (g + 1) * k) + (2 ^ (g + 1) - 1) ∧ i / 2 ^ g = 2 * k ∧ 2 ^ (g + 1) * k = 2 ^ g * (2 * k)) := by
  have hp := Nat.two_pow_pos g
  have hb := block_half g k
  have e2 : 2 ^ (g + 1) - 1 = 2 * 2 ^ g - 1 := by rw [Nat.pow_succ]; omega
  rw [e2, ← hb]
  have hs := half_side i r (2 ^ g * (2 * k + 1)) hr
  have hd : i / 2 ^ g / 2 = k := by rw [Nat.div_div_eq_div_mul, ← Nat.pow_succ, hk]
  have hle : 2 ^ g * (2 * k + 1) ≤ i ↔ 2 * k + 1 ≤ i / 2 ^ g := by rw [Nat.le_div_iff_mul_le hp, Nat.mul_comm]
  by_cases q : 2 ^ g * (2 * k + 1) ≤ i
  · left
    have := hle.1 q
    exact ⟨hs.2 q, by omega, rfl⟩
  · right
    have h1 : ¬ 2 * k + 1 ≤ i / 2 ^ g := fun h => q (hle.2 h)
    refine ⟨?_, by omega, by rw [Nat.pow_succ, Nat.mul_assoc]⟩
    have : ¬ nodesN (2 ^ g * (2 * k + 1)) ≤ nodesN i + r := fun h => q (hs.1 h)
    omega
/-- The left sibling. -/
theorem sib_place (i r : Nat) (hr : r < t1 i) : ∃ m, i / 2 ^ r = 2 * m + 1 ∧ nodesN i = nodesN ((2 * m + 1) * 2 ^ r - 1) + (2 ^ (r + 1) - 1) ∧ (2 * m + 1) * 2 ^ r ≤ i := by
  have hp := Nat.two_pow_pos r
  have hb := t1_bit i r hr
  have hi := t1_mod r i (by omega)
  refine ⟨i / 2 ^ r / 2, by omega, ?_, ?_⟩
  · have e : i / 2 ^ r = 2 * (i / 2 ^ r / 2) + 1 := by omega
    generalize i / 2 ^ r / 2 = m at *
    rw [e] at hi
    have h1 := nodes_block r (2 * m + 1) (2 ^ r - 1) (by omega)
    have h2 := nodes_block (r + 1) m (2 ^ r - 1) (by rw [Nat.pow_succ]; omega)
    have h3 := block_half r m
    have h4 : (2 * m + 1) * 2 ^ r - 1 = 2 ^ (r + 1) * m + (2 ^ r - 1) := by
      rw [Nat.pow_succ, Nat.add_mul, Nat.one_mul, Nat.mul_comm (2 ^ r) 2, Nat.mul_assoc, Nat.mul_assoc, Nat.mul_comm m (2 ^ r)]
      omega
    have h5 : 2 ^ (r + 1) = 2 * 2 ^ r := by rw [Nat.pow_succ]; omega
    rw [← hi] at h1
    rw [h4, h5]
    rw [h5] at h2 h3
    omega
  · have e : i / 2 ^ r = 2 * (i / 2 ^ r / 2) + 1 := by omega
    rw [← e]
    exact Nat.div_mul_le_self i (2 ^ r)
theorem spot_right (i r : Nat) (hr : r ≤ t1 i) : i / 2 ^ r % 2 = 1 ↔ r < t1 i := by
  constructor
  · intro h
    by_cases q : r = t1 i
    · rw [q, t1_end] at h; omega
    · omega
  · exact t1_bit i r
end Go.Proofs.YtpklkefnmoaaaaaGreatDoor

/- Places: Spot, Index, Kids walked, at a place that a forest has. -/
namespace Go.Proofs.YtpklkefnmoaaaaaGreatDoor
open Go.RowKit
set_option linter.unusedVariables false
set_option linter.unusedSimpArgs false

def SpotP (w : World) (r k : Nat) (e : Ending) (w' : World) : Prop := e = .returned (.tuple #[.agg #[.int .u8 r, .int .u64 k], .bool true]) ∧ Chg [] w w'
theorem nodes_max : nodesN 4611686018427387904 = 9223372036854775807 := by
  have := nodes_pow0 62
  rw [show (2 : Nat) ^ 62 = 4611686018427387904 from by decide, show (2 : Nat) ^ (62 + 1) - 1 = 9223372036854775807 from by decide] at this
  exact this
theorem place_lt (i r : Nat) (hi : i < 4611686018427387904) (hr : r ≤ t1 i) : nodesN i + r < 9223372036854775807 := by
  have h1 := nodes_succ i
  have h2 := nodes_mono (show i + 1 ≤ 4611686018427387904 from hi)
  rw [nodes_max] at h2
  omega
theorem t1_two (n : Nat) : 2 ^ t1 n ≤ n + 1 := by
  induction n using Nat.strongRecOn with
  | _ n ih =>
    rcases two_cases n with ⟨k, rfl⟩ | ⟨k, rfl⟩
    · rw [t1_even]; simp
    · rw [t1_odd, Nat.add_comm 1, Nat.pow_succ]
      have := ih k (by omega)
      omega
theorem t1_62 (n : Nat) (h : n < 4611686018427387904) : t1 n ≤ 62 := by
  have := t1_two n
  rcases Nat.lt_or_ge 62 (t1 n) with q | q
  · have h2 := Nat.pow_le_pow_right (show 0 < 2 from by omega) q
    have : (2 : Nat) ^ (62 + 1) = 9223372036854775808 := by decide
    omega
  · exact q
set_option maxRecDepth 100000 in
theorem Spot_calls (i r : Nat) (hi : i < 4611686018427387904) (hr : r ≤ t1 i) (w : World) : Calls Tryz.prog 194 #[.int .u64 (nodesN i + r : Nat)] w (SpotP w r ((i + 1) / 2 ^ r - 1)) := by
  have hpl := place_lt i r hi hr
  have h62 := t1_62 i hi
  have hla := fun W => last_calls (nodesN i + r) (by omega) W
  rw [last_of i r (show i < 2 ^ 62 from hi) hr] at hla
  have hno := fun W => nodes_calls i (by omega) W
  have hmx := fun W => nodes_calls 4611686018427387904 (by omega) W
  rw [nodes_max] at hmx
  obtain ⟨M, hM⟩ : ∃ M : Int, M = 9223372036854775807 := ⟨_, rfl⟩
  have hmx2 : ∀ W, Calls Tryz.prog 126 #[.int .u64 4611686018427387904] W fun e w' => e = .returned (.int .u64 M) ∧ w' = W := by rw [hM]; exact hmx
  have hPM : (((nodesN i + r : Nat) : Nat) : Int) < M := by omega
  have hPM2 : decide (M ≤ ((nodesN i + r : Nat) : Int)) = false := decide_eq_false (by omega)
  have hb2 : nodesN i + r < 9223372036854775808 := by omega
  have hsub : ((nodesN i + r : Nat) : Int) - (nodesN i : Nat) = (r : Int) := by omega
  have hd : ((i : Int) + 1) / 2 ^ r = (((i + 1) / 2 ^ r : Nat) : Int) := by
    rw [show (i : Int) + 1 = ((i + 1 : Nat) : Int) from by omega, ← pow_i]
    simp
  have hq : 1 ≤ (i + 1) / 2 ^ r := by
    have h1 := t1_two i
    have h2 := Nat.pow_le_pow_right (show 0 < 2 from by omega) hr
    exact (Nat.one_le_div_iff (Nat.two_pow_pos r)).2 (by omega)
  have hqm : (i + 1) / 2 ^ r ≤ i + 1 := Nat.div_le_self _ _
  have hfin : ((((i + 1) / 2 ^ r - 1 : Nat)) : Int) = (((i + 1) / 2 ^ r : Nat) : Int) - 1 := by omega
  have r62 : r ≤ 62 := by omega
  have HF := Lib.hid hfin
  clear hmx hfin h62 hr hM hpl
  generalize (i + 1) / 2 ^ r = q at *
  generalize nodesN i + r = P at *
  generalize nodesN i = nn at *
  go_enter Tryz.func194, Tryz.ntmps194
  go_wp2_with (first
    | (go_at_call 126; (with_reducible refine (hmx2 _).mono ?_); rintro e w1 ⟨rfl, hw1⟩; subst hw1)
    | (go_at_call 231; (with_reducible refine (hla _).mono ?_); rintro e w1 ⟨rfl, hw1⟩; subst hw1)
    | (go_at_call 126; (with_reducible refine (hno _).mono ?_); rintro e w1 ⟨rfl, hw1⟩; subst hw1))
  refine bodyPost_ret (v := .tuple #[.agg #[.int .u8 r, .int .u64 ((q : Int) - 1)], .bool true]) (by simp [results, Tryz.results194, go_sem]) rfl ⟨by rw [HF.out], ?_⟩
  exact (Chg.refl _ _).alloc _
set_option maxRecDepth 100000 in
theorem kids_calls (i r : Nat) (hi : i < 4611686018427387904) (hr : r ≤ t1 i) (h0 : 0 < r) (w : World) : Calls Tryz.prog 140 #[.int .u64 (nodesN i + r : Nat)] w (Res w [] (.tuple #[.int .u64 (nodesN i + r - 2 ^ r : Nat), .int .u64 (nodesN i + r - 1 : Nat), .bool true])) := by
  have hs := Spot_calls i r hi hr w
  have h62 := t1_62 i hi
  have hpl := place_lt i r hi hr
  have r62 : r ≤ 62 := by omega
  have hpw : 2 ^ r ≤ 4611686018427387904 := Nat.pow_le_pow_right (show 0 < 2 from by omega) r62
  have hp0 := Nat.two_pow_pos r
  have hle : 2 ^ r ≤ nodesN i + r := by
    have h1 := t1_two i
    have h2 := Nat.pow_le_pow_right (show 0 < 2 from by omega) hr
    have h3 := nodes_ge i
    omega
  have hsh : IntKind.u64.wrap ((2 : Int) ^ r) = ((2 ^ r : Nat) : Int) := by
    rw [IntKind.wrap_u64, ← pow_i]
    omega
  have hne : ((r : Int) == 0) = false := by rw [beq_eq_false_iff_ne]; omega
  have e1 : ((nodesN i + r - 2 ^ r : Nat) : Int) = ((nodesN i + r : Nat) : Int) - (2 ^ r : Nat) := by omega
  have e2 : ((nodesN i + r - 1 : Nat) : Int) = ((nodesN i + r : Nat) : Int) - 1 := by omega
  rw [e1, e2]
  have hP1 : 1 ≤ nodesN i + r := by omega
  have HZ : Hid ((2 : Int) ^ r = ((2 ^ r : Nat) : Int)) := Lib.hid (pow_i r).symm
  clear hr e1 e2 h62
  generalize nodesN i + r = P at *
  generalize (i + 1) / 2 ^ r - 1 = k at *
  go_enter Tryz.func140, Tryz.ntmps140
  go_wp2_with (go_at_call 194; refine hs.mono ?_; rintro e w1 ⟨rfl, hc1⟩)
  generalize 2 ^ r = z at *
  go_wp2
  have hwr : IntKind.u64.wrap ((P : Int) - 2 ^ r) = (P : Int) - z := by
    rw [HZ.out, IntKind.wrap_u64]
    omega
  refine bodyPost_ret (v := .tuple #[.int .u64 ((P : Int) - z), .int .u64 ((P : Int) - 1), .bool true]) (by simp [results, Tryz.results140, go_sem, hwr]) rfl ⟨rfl, ?_⟩
  first | exact hc1.alloc _ | exact (hc1.alloc _).setCell (.inr hc1.size) _
end Go.Proofs.YtpklkefnmoaaaaaGreatDoor

/- The document's Spot, Sibling walked. -/
namespace Go.Proofs.YtpklkefnmoaaaaaGreatDoor
open Go.RowKit
set_option linter.unusedVariables false
set_option linter.unusedSimpArgs false
set_option maxRecDepth 100000 in
set_option maxHeartbeats 4000000 in
theorem r3spot_calls (i r : Nat) (hi : i < 4611686018427387904) (hr : r ≤ t1 i) (w : World) : Calls Tryz.prog 166 #[.int .u64 (nodesN i + r : Nat)] w (SpotP w r (i / 2 ^ r)) := by
  have hpl := place_lt i r hi hr
  have h62 := t1_62 i hi
  have hp62 := fun W => r3power_calls 62 (by omega) W
  have hmeet := fun h k hk => spot_meets i r h k hr hk
  have hdown := fun g k hk => spot_down i r g k hr hk
  have hlow := fun h k (hk : i / 2 ^ h = k) => (half_side i r (2 ^ h * k) hr).2 (by rw [← hk]; exact Nat.mul_div_le i (2 ^ h))
  have hi62 : i / 2 ^ 62 = 0 := Nat.div_eq_of_lt hi
  have hn0 : nodesN (2 ^ 62 * 0) = 0 := by rw [Nat.mul_zero, nodes_zero]
  have r62 : r ≤ 62 := by omega
  have hfin : ∀ W, Chg [] w W → SpotP w r (i / 2 ^ r) (.returned (.tuple #[.agg #[.int .u8 r, .int .u64 (i / 2 ^ r : Nat)], .bool true])) W := fun W hW => ⟨rfl, hW⟩
  have HM := Lib.hid hmeet
  have HD := Lib.hid hdown
  have HI := Lib.hid hi62
  have HN := Lib.hid hn0
  have HL := Lib.hid hlow
  have HF := Lib.hid hfin
  obtain ⟨P, hP⟩ : ∃ P, nodesN i + r = P := ⟨_, rfl⟩
  rw [hP] at hpl ⊢
  have hgt : decide ((9223372036854775806 : Int) < (P : Int)) = false := decide_eq_false (by omega)
  have HP := Lib.hid hP
  clear hmeet hdown hi62 hn0 h62 hr hP hlow hfin
  go_enter Tryz.func166, Tryz.ntmps166
  go_wp2_with (go_at_call 174; refine (hp62 _).mono ?_; rintro e w1 ⟨rfl, hw1⟩; subst hw1)
  go_loopg [4, 5, 6] 62 (fun m bb hh kk wx => ∃ h k : Nat, h ≤ 62 ∧ m = h ∧ i / 2 ^ h = k ∧ r ≤ h ∧ bb = .int .u64 (nodesN (2 ^ h * k) : Nat) ∧ hh = .int .i64 h ∧ kk = .int .u64 k ∧ wx = w.alloc (.cells #[.int .u8 0, .int .u64 0] 178))
  case atStart => exact ⟨62, 0, by omega, rfl, HI.out, r62, by rw [HN.out]; rfl, rfl, rfl, rfl⟩
  case round =>
    obtain ⟨h, k, hh, hg, hk, hrh, rfl, rfl, rfl, rfl⟩ := hrel
    have hpw := fun W => r3power_calls h hh W
    have hm := HM.out h k hk
    have hlo := HL.out h k hk
    rw [HP.out] at hm hlo
    have hQ : 2 ^ h ≤ 4611686018427387904 := Nat.pow_le_pow_right (show 0 < 2 from by omega) hh
    have hQ1 := Nat.two_pow_pos h
    have hkl : k ≤ i := by rw [← hk]; exact Nat.div_le_self _ _
    by_cases e : r = h
    · subst e
      have he := hm.2 rfl
      rw [hk] at HF ⊢
      obtain ⟨B, hB⟩ : ∃ B, nodesN (2 ^ r * k) = B := ⟨_, rfl⟩
      rw [hB] at he hlo ⊢
      clear hm hk HM HD HI HN HL HP hB hg
      generalize 2 ^ r = Q at *
      have heq : ((P : Int) == (B : Int) + 2 * ((Q : Int) - 1)) = true := by rw [beq_iff_eq]; omega
      go_wp2_with (go_at_call 174; refine (hpw _).mono ?_; rintro e w1 ⟨rfl, hw1⟩; subst hw1)
      refine bodyPost_ret (v := .tuple #[.agg #[.int .u8 r, .int .u64 k], .bool true]) (by simp [results, Tryz.results166, go_sem]) rfl (HF.out _ ?_)
      exact (Chg.refl _ _).alloc _
    · obtain ⟨g, rfl⟩ : ∃ g, h = g + 1 := ⟨h - 1, by omega⟩
      have hne : ¬ P = nodesN (2 ^ (g + 1) * k) + 2 * (2 ^ (g + 1) - 1) := fun q => e (hm.1 q)
      have hd := HD.out g k hk
      rw [HP.out] at hd
      have HG := Lib.hid hg
      have e1 : ((g + 1 : Nat) : Int) - 1 = (g : Int) := by omega
      rcases hd with ⟨hge, hk2, hb2⟩ | ⟨hlt, hk2, hb2⟩
      · obtain ⟨B, hB⟩ : ∃ B, nodesN (2 ^ (g + 1) * k) = B := ⟨_, rfl⟩
        rw [hB] at hne hge hlo hb2 ⊢
        have HB2 := Lib.hid hb2
        have HK2 := Lib.hid hk2
        clear hm hk HM HD HI HN HL HP hB hg hb2 hk2 HF
        generalize hQe : 2 ^ (g + 1) = Q at *
        have HQE : Shut (2 ^ (g + 1) = Q) := ⟨hQe⟩
        clear hQe
        have heq : ((P : Int) == (B : Int) + 2 * ((Q : Int) - 1)) = false := by rw [beq_eq_false_iff_ne]; omega
        have hdv : 2 * ((Q : Int) - 1) / 2 = (Q : Int) - 1 := by omega
        have hgd : decide ((B : Int) + ((Q : Int) - 1) ≤ (P : Int)) = true := decide_eq_true (by omega)
        have hkb : (k : Int) ≤ 4611686018427387904 := by omega
        have hcast : (B : Int) + ((Q : Int) - 1) = ((B + (Q - 1) : Nat) : Int) := by omega
        have HC := Lib.hid hcast
        clear hcast
        go_wp2_with (go_at_call 174; refine (hpw _).mono ?_; rintro e w1 ⟨rfl, hw1⟩; subst hw1)
        go_roundg g
        case measure => rw [HG.out]; omega
        case rel => exact ⟨g, 2 * k + 1, by omega, rfl, HK2.out, by omega, by rw [HC.out, HB2.out], by go_num, by go_num, rfl⟩
      · obtain ⟨B, hB⟩ : ∃ B, nodesN (2 ^ (g + 1) * k) = B := ⟨_, rfl⟩
        have hb3 : nodesN (2 ^ g * (2 * k)) = B := by rw [← hb2, hB]
        rw [hB] at hne hlt hlo ⊢
        have HB2 := Lib.hid hb3
        have HK2 := Lib.hid hk2
        clear hm hk HM HD HI HN HL HP hB hg hb2 hb3 hk2 HF
        generalize hQe : 2 ^ (g + 1) = Q at *
        have HQE : Shut (2 ^ (g + 1) = Q) := ⟨hQe⟩
        clear hQe
        have heq : ((P : Int) == (B : Int) + 2 * ((Q : Int) - 1)) = false := by rw [beq_eq_false_iff_ne]; omega
        have hdv : 2 * ((Q : Int) - 1) / 2 = (Q : Int) - 1 := by omega
        have hgd : decide ((B : Int) + ((Q : Int) - 1) ≤ (P : Int)) = false := decide_eq_false (by omega)
        have hkb : (k : Int) ≤ 4611686018427387904 := by omega
        go_wp2_with (go_at_call 174; refine (hpw _).mono ?_; rintro e w1 ⟨rfl, hw1⟩; subst hw1)
        go_roundg g
        case measure => rw [HG.out]; omega
        case rel => exact ⟨g, 2 * k, by omega, rfl, HK2.out, by omega, by rw [HB2.out], by go_num, by go_num, rfl⟩
set_option maxRecDepth 100000 in
set_option maxHeartbeats 4000000 in
theorem r3sib_calls (i r : Nat) (hi : i < 4611686018427387904) (hr : r < t1 i) (w : World) : Calls Tryz.prog 167 #[.int .u64 (nodesN i + r : Nat)] w (Res w [] (.tuple #[.int .u64 (nodesN i + r - (2 ^ (r + 1) - 1) : Nat), .bool true])) := by
  have h62 := t1_62 i hi
  have hsp := fun W => r3spot_calls i r hi (by omega) W
  obtain ⟨m, hm1, hm2, hm3⟩ := sib_place i r hr
  have hpw : 2 ^ (62 - r) * 2 ^ r = 4611686018427387904 := by rw [← Nat.pow_add, Nat.sub_add_cancel (by omega)]
  have hk : 2 * m < 2 ^ (62 - r) := by
    have h1 : (2 * m + 1) * 2 ^ r < 2 ^ (62 - r) * 2 ^ r := by rw [hpw]; omega
    have := Nat.lt_of_mul_lt_mul_right h1
    omega
  have hpl := fun W => r3place_calls r (2 * m) (by omega) hk W
  have hres : nodesN ((2 * m + 1) * 2 ^ r - 1) + r = nodesN i + r - (2 ^ (r + 1) - 1) := by omega
  rw [hres] at hpl
  rw [hm1] at hsp
  have hml : 2 * m + 1 ≤ i := by
    have := Nat.le_mul_of_pos_right (2 * m + 1) (Nat.two_pow_pos r)
    omega
  have r61 : r ≤ 61 := by omega
  clear hres hpw hk hm1 hm2 hm3 h62 hr
  obtain ⟨K, hK⟩ : ∃ K, 2 * m + 1 = K := ⟨_, rfl⟩
  have e1 : ((2 * m : Nat) : Int) = (K : Int) - 1 := by omega
  have hb : ((K : Int) % 2 == 1) = true := by rw [beq_iff_eq]; omega
  have hne : ((r : Int) == 62) = false := by rw [beq_eq_false_iff_ne]; omega
  have hK1 : 1 ≤ K := by omega
  rw [e1] at hpl
  rw [hK] at hsp hml
  clear hK e1
  generalize nodesN i + r - (2 ^ (r + 1) - 1) = T at *
  generalize nodesN i + r = P at *
  go_enter Tryz.func167, Tryz.ntmps167
  go_wp2_with fail
  go_at_call 166
  refine (hsp _).mono ?_
  rintro e w1 ⟨rfl, hc1⟩
  have hXX := hc1
  go_upto_region 7 with fail
  have hYY := hc1
  go_wp2_with fail
  go_at_call 133
  refine (hpl _).mono ?_
  rintro e w2 ⟨rfl, hc2⟩
  go_wp2
  go_ret2
  exact ⟨rfl, (hc1.alloc _).nil_trans hc2⟩
end Go.Proofs.YtpklkefnmoaaaaaGreatDoor

/- The document's hash: NodeText, Node walked. -/
namespace Go.Proofs.YtpklkefnmoaaaaaGreatDoor
open Go.RowKit
set_option linter.unusedVariables false
set_option linter.unusedSimpArgs false
section
attribute [local go_sem ↓] hold_apY
set_option maxRecDepth 100000 in
theorem r2nodet_calls (w : World) (l r : List Nat) (hl : l.length = 32) (hr : r.length = 32) (hlb : ∀ x ∈ l, x < 256) (hrb : ∀ x ∈ r, x < 256) : Calls Tryz.prog 206 #[.agg (hV l), .agg (hV r)] w (TextR w (1 :: l ++ r)) := by
  have b1 := blk_new w (.cells (hV l) 36)
  have b2 := blk_new (w.alloc (.cells (hV l) 36)) (.cells (hV r) 36)
  rw [World.size_alloc] at b2
  have k0 : Chg [] w ((w.alloc (.cells (hV l) 36)).alloc (.cells (hV r) 36)) := ((Chg.refl _ _).alloc _).alloc _
  have s1 := box_bsG (blk_drew (blk_alloc b1 (.cells (hV r) 36))) hl (by decide) hlb
  have s2 := box_bsG (blk_drew b2) hr (by decide) hrb
  obtain ⟨v1, w1, v2, w2, hr1, hr2, hb, hc, _⟩ := text_runs _ 1 (by omega) _ _ l r s1 s2 (by omega)
  have hrun1 : (apY #[37, 37] 37 #[.slice (some ⟨w.heap.size + 2, 0, none⟩) 1 1, .slice (some ⟨w.heap.size, 0, none⟩) 32 32]).run Tryz.prog ((((w.alloc (.cells (hV l) 36)).alloc (.cells (hV r) 36)).alloc (.cells #[.int .u8 1] 5)).drew) = .ok v1 w1 := by
    have e : (((w.alloc (.cells (hV l) 36)).alloc (.cells (hV r) 36)).drew).heap.size = w.heap.size + 2 := by show ((w.alloc (.cells (hV l) 36)).alloc (.cells (hV r) 36)).heap.size = _; simp
    rw [e] at hr1
    exact hr1
  have hrun2 : (apY #[37, 37] 37 #[v1, .slice (some ⟨w.heap.size + 1, 0, none⟩) 32 32]).run Tryz.prog w1 = .ok v2 w2 := hr2
  have hfin : TextR w (1 :: l ++ r) (.returned v2) w2 := ⟨_, rfl, hb, (k0.drew).nil_trans hc⟩
  have HF := Lib.hid hfin
  clear hfin hb hc hr1 hr2 s1 s2 k0 b1 b2 hlb hrb
  go_enter Tryz.func206, Tryz.ntmps206
  go_upto_region 1 with (fail)
  go_region
  all_goals
    go_wp2
    go_ret
    exact HF.out
end
set_option maxRecDepth 100000 in
theorem r2node_calls (w : World) (wd : Int) (l r : List Nat) (hl : l.length = 32) (hr : r.length = 32) (hlb : ∀ x ∈ l, x < 256) (hrb : ∀ x ∈ r, x < 256) :
    Calls Tryz.prog 160 #[.int .i64 wd, .agg (hV l), .agg (hV r)] w (Res w [] (.agg (hV (nodeN wd l r)))) := by
  have hso := sum_ok wd (1 :: l ++ r) (text_lt 1 l r (by decide) hlb hrb)
  have htx := fun W => r2nodet_calls W l r hl hr hlb hrb
  have hsm := fun (W : World) (g : Nat) (pv : Value) (hg : W.heap[g]? = some (.cells #[pv] 37 (0, 0))) (hv : BsIs W pv (1 :: l ++ r)) => r2sum1 W wd g pv _ hg hv (by simp; omega)
  have hc0 : Chg [] w (((w.alloc (.cells (hV l) 36)).alloc (.cells (hV r) 36)).alloc (.cells zeroHash 36)) := (((Chg.refl _ _).alloc _).alloc _).alloc _
  have hm0 : may (((w.alloc (.cells (hV l) 36)).alloc (.cells (hV r) 36)).alloc (.cells zeroHash 36)) (w.heap.size + 2) 0 32 = true := by
    have := may_alloc_at ((w.alloc (.cells (hV l) 36)).alloc (.cells (hV r) 36)) _ 32 zeroHash 36 rfl zeroHash_size
    simpa using this
  have hSM : nodeN wd l r = sumN wd (1 :: l ++ r) := rfl
  rw [hSM]
  clear hlb hrb hSM
  have hs1 := (hV_is _ hso.1 hso.2).1
  have hs2 := (hV_is _ hso.1 hso.2).one
  generalize sumN wd (1 :: l ++ r) = sm at *
  go_enter Tryz.func160, Tryz.ntmps160
  go_wp2_with fail
  go_at_call 206
  refine (htx _).mono ?_
  rintro e w1 ⟨v, rfl, hv, hc1⟩
  obtain ⟨va, vn, vc, rfl⟩ := hv.form
  have hm1 := may_chg hc1 hm0 (by omega) (by simp)
  have hC1 := hc0.nil_trans hc1
  have hsu := hsm (w1.alloc (.cells #[.slice va vn vc] 37)) w1.heap.size (.slice va vn vc) (blk_new w1 _) (hv.chg0 ((Chg.refl [] w1).alloc _))
  have hm2 : may (w1.alloc (.cells #[.slice va vn vc] 37)) (w.heap.size + 2) 0 32 = true := may_chg ((Chg.refl [] w1).alloc _) hm1 (by omega) (by simp)
  clear hv hsm htx hso
  go_wp2_with fail
  go_at_call 205
  refine hsu.mono ?_
  rintro e w3 ⟨rfl, hc3⟩
  have hm3 := may_chg hc3 hm2 (by omega) (by simp)
  go_wp2
  refine bodyPost_ret (res_Hash1 rfl _ _ rfl (rng?_setRng_same _ _ _ _ _ hm3 hs1)) rfl ⟨rfl, ?_⟩
  exact Chg.setRng ((hC1.alloc _).nil_trans hc3) (.inr (by show w.heap.size ≤ w.heap.size + 2; omega)) _ _
theorem r2nodeA_calls (w : World) (wd : Int) {x y : Array Value} (hx : IsHash x) (hy : IsHash y) : Calls Tryz.prog 160 #[.int .i64 wd, .agg x, .agg y] w (Res w [] (.agg (nodeA wd x y))) := by
  obtain ⟨e1, l1, b1⟩ := hx.toN
  obtain ⟨e2, l2, b2⟩ := hy.toN
  have := r2node_calls w wd _ _ l1 l2 b1 b2
  rw [e1, e2] at this
  exact this
end Go.Proofs.YtpklkefnmoaaaaaGreatDoor

/- A region that draws its order, reads, and holds calls that make memory: walked once, in the order of the text. Nothing of a program. -/
namespace Go.Proofs.YtpklkefnmoaaaaaGreatDoor
open Go.RowKit Go.Sort
set_option linter.unusedVariables false
set_option linter.unusedSimpArgs false
theorem chg_regrown (w : World) (d : Nat) (os : Array Obj) : Chg [] w (grow (redrawn w d) os) := Chg.of_below (below_regrown w d os)
section
variable (w : World) (d : Nat) (os : Array Obj)
@[go_sem] theorem cell?_regrown (a : Addr) (h : a.block < w.heap.size) : (grow (redrawn w d) os).cell? a = w.cell? a := (chg_regrown w d os).cell h (by simp)
@[go_sem] theorem frozen?_regrown (a : Addr) (h : a.block < w.heap.size) : (grow (redrawn w d) os).frozen? a = w.frozen? a := (chg_regrown w d os).frozen h (by simp)
@[go_sem] theorem rng?_regrown (b o n : Nat) (h : b < w.heap.size) : rng? (grow (redrawn w d) os) b o n = rng? w b o n := rng?_congr fun j _ => cell?_regrown w d os ⟨b, o + j, none⟩ h
end
theorem rg_of {P : Program} {f : FuncId} {args : Array Value} {w : World} {v : Value} (h : ∀ W, Chg [] w W → Calls P f args W (Res W [] v)) (d : Nat) (os : Array Obj) :
    Calls P f args (grow (redrawn w d) os) fun e w'' => e = .returned v ∧ ∃ p : Regrown, w'' = grow (redrawn w p.d) p.os :=
  (h _ (chg_regrown w d os)).mono fun _ _ ⟨he, hc⟩ => ⟨he, regrown_of_below ((chg_regrown w d os).nil_trans hc).below⟩
end Go.Proofs.YtpklkefnmoaaaaaGreatDoor

/- A region that draws its order, reads first (calls that make memory among it) and ends in operations that stand in a row: the head walked once in the text's order, the tail as plain operations. Nothing of a program. -/
namespace Go.Proofs.YtpklkefnmoaaaaaGreatDoor
open Go.RowKit Go.Sort
set_option linter.unusedVariables false
set_option linter.unusedSimpArgs false
section
variable {P : Program} {ops : Array Oper} {md : Region.Mode} {C : World → Prop}
def wpAnyQL (P : Program) (md : Region.Mode) (ops : Array Oper) (C : World → Prop) (n : Nat) (L : Array Bool → Act → Prop) : Nat → Array Bool → Act → Prop
  | 0, listed, a => L listed a
  | f + 1, listed, a =>
    Region.ready md ops listed ≠ [] ∧ ∀ i ∈ Region.ready md ops listed, i < n ∧ qOp P ops C i (wpAnyQL P md ops C n L f (listed.setIfInBounds i true)) a
theorem wpAny_of_headQ {n g : Nat} {L : Array Bool → Act → Prop} {Q' : Exit → Act → World → Prop} (hL : ∀ listed a w, C w → L listed a → wpAny P md ops Q' g listed a w) :
    ∀ (f : Nat) (listed : Array Bool) (a : Act) (w : World), C w → wpAnyQL P md ops C n L f listed a → wpAny P md ops Q' (f + g) listed a w
  | 0, listed, a, w, hw, h => by rw [Nat.zero_add]; exact hL _ _ _ hw h
  | f + 1, listed, a, w, hw, h => by
    rw [show f + 1 + g = (f + g) + 1 by omega]
    exact ⟨fun h0 => absurd h0 h.1, fun i hi => wpOp_of_qOp hw (fun a' w' hw' h' => wpAny_of_headQ hL f _ a' w' hw' h') (h.2 i hi).2⟩
theorem wpAnyQL_first {n i : Nat} {oi : Oper} {v : Value} {L : Array Bool → Act → Prop} (hi : ops[i]? = some oi) (hsel : ∀ (j : Nat) (o : Oper) cs b, ops[j]? = some o → o.op ≠ .select cs b)
    (hs : Region.sinkB md ops n = true) (hc : Region.chainB md ops n = true) (hn : n < ops.size) (hin : i < n)
    (hdone : ∀ listed a, L listed a → ∀ j ∈ Region.ready md ops listed, n ≤ j) :
    ∀ (f : Nat) (listed : Array Bool) (a : Act), HeadInv md ops n listed →
      (∀ j oj, ops[j]? = some oj → j ≠ i → listed.getD j true = false → (∀ e ∈ oj.after, Region.binds md e = true → e.on ≠ i) → oi.apart ops oj = true) →
      i ∈ Region.ready md ops listed → YieldsIn P ops C oi v a →
      wpAnyQL P md ops C n L f (listed.setIfInBounds i true) (a.put oi.dst v) → wpAnyQL P md ops C n L (f + 1) listed a := by
  intro f
  induction f with
  | zero =>
    intro listed a inv _ hr hy H
    have hun := (mem_ready.1 hr).1
    refine ⟨fun h => (by rw [h] at hr; cases hr), fun j hj => ?_⟩
    have hjn : j < n := by
      rcases Nat.lt_or_ge j n with h | h
      · exact h
      · exact absurd hj (tail_waits hs hc hn inv _ i rfl hin hun j h)
    refine ⟨hjn, ?_⟩
    by_cases hji : j = i
    · subst hji; exact hy.qOp hi H
    · have := hdone _ _ H j (ready_mono hj hji)
      omega
  | succ f ih =>
    intro listed a inv hfree hr hy H
    have hun := (mem_ready.1 hr).1
    refine ⟨fun h => (by rw [h] at hr; cases hr), fun j hj => ?_⟩
    have hjn : j < n := by
      rcases Nat.lt_or_ge j n with h | h
      · exact h
      · exact absurd hj (tail_waits hs hc hn inv _ i rfl hin hun j h)
    refine ⟨hjn, ?_⟩
    by_cases hji : j = i
    · subst hji; exact hy.qOp hi H
    · have h1 := (H.2 j (ready_mono hj hji)).2
      obtain ⟨hjun, oj, hoj, hall⟩ := mem_ready.1 hj
      have hnot : ∀ e ∈ oj.after, Region.binds md e = true → e.on ≠ i := fun e he hb heq => by
        have h1 := hall e he hb
        rw [heq, getD_both hun] at h1
        cases h1
      have h2 := qOp_put hoj (hfree j oj hoj hji hjun hnot) (fun cs b => hsel i oi cs b hi) (fun cs b => hsel j oj cs b hoj) hy h1
      have hfree' : ∀ k ok, ops[k]? = some ok → k ≠ i → (listed.setIfInBounds j true).getD k true = false →
          (∀ e ∈ ok.after, Region.binds md e = true → e.on ≠ i) → oi.apart ops ok = true := fun k ok hk hki hun hno => by
        refine hfree k ok hk hki ?_ hno
        by_cases hjk : j = k
        · subst hjk; exact hjun
        · rw [getD_set_ne true hjk] at hun; exact hun
      refine qOp_mono (fun a' h3 => ih (listed.setIfInBounds j true) a' (inv.set hj hjn) hfree' (ready_mono hr (Ne.symm hji)) h3.1 ?_) h2
      rw [Array.setIfInBounds_comm _ _ hji]
      exact h3.2
theorem wpAnyQL_lex {n g : Nat} {Lq : Act → Prop} (hsel : Region.noSelect ops = true) (hs : Region.sinkB md ops n = true) (hc : Region.chainB md ops n = true) (hn : n < ops.size) :
    ∀ (l : List Oper) (k : Nat) (listed : Array Bool) (a : Act), (∀ j, j < l.length → l[j]? = ops[k + j]?) → k + l.length = n → HeadInv md ops n listed →
    Region.lexHead md ops g l.length k listed = true → wpQuiet P ops C Lq l a →
    wpAnyQL P md ops C n (fun listed' a' => Region.seqB md ops g n listed' = true ∧ Lq a') l.length listed a
  | [], k, listed, a, _, hk, _, hB, h => by
    have : k = n := by simpa using hk
    subst this
    exact ⟨by simpa [Region.lexHead] using hB, h⟩
  | o :: l, k, listed, a, hl, hk, inv, hB, h => by
    have h0 : ops[k]? = some o := by simpa using (hl 0 (by simp)).symm
    simp only [List.length_cons, Region.lexHead, Bool.and_eq_true] at hB
    obtain ⟨⟨hr, hf⟩, hB'⟩ := hB
    have hkn : k < n := by simp only [List.length_cons] at hk; omega
    have hr' : k ∈ Region.ready md ops listed := by simpa using hr
    have hst : qOp P ops C k (wpQuiet P ops C Lq l) a := by unfold qOp; simp only [h0]; exact h
    obtain ⟨v, hy, hK⟩ := yieldsIn_of_qOp h0 hst
    exact wpAnyQL_first h0 (Region.noSelect_spec hsel) hs hc hn hkn (fun listed' a' hL => seqB_ready hL.1) l.length listed a inv (Region.free_spec h0 hf) hr' hy
      (wpAnyQL_lex hsel hs hc hn l (k + 1) _ _ (fun j hj => by have := hl (j + 1) (by simp; omega); simpa [Nat.add_assoc, Nat.add_comm 1 j] using this) (by simp only [List.length_cons] at hk; omega) (inv.set hr' hkn) hB' hK)
theorem wp_region_quiet_tail_in {id : Nat} {Q : Exit → Act → World → Prop} {a : Act} {w : World} {l : List Oper} (n : Nat) (hm : P.follows .mixedOrders = true) (hB : Region.lexTailB .any l.toArray n = true) (hC : C { w with drawn := w.drawn + 1 })
    (h : wpQuiet P l.toArray C (fun a' => ∀ w', C w' → wpList P l.toArray Q (l.drop n) a' w') (l.take n) a) : (Code.region id l.toArray true).wp P Q a w := by
  simp only [Region.lexTailB, Bool.and_eq_true, decide_eq_true_eq] at hB
  obtain ⟨⟨⟨⟨hsel, hn⟩, hs⟩, hc⟩, hlex⟩ := hB
  have hn' : n < l.length := by simpa using hn
  have htl : (l.take n).length = n := by simp; omega
  have hdl : (l.drop n).length = l.toArray.size - n := by simp
  have inv0 : HeadInv .any l.toArray n (Array.replicate l.toArray.size false) :=
    ⟨by simp, fun j oj _ hl => (by rw [getD_replicate_false] at hl; cases hl), fun t _ ht => getD_in (by simpa using ht) (getD_replicate_false _ _)⟩
  have H := wpAnyQL_lex (md := .any) (g := l.toArray.size - n) hsel hs hc hn (l.take n) 0 _ a (fun j hj => by
    have hj' : j < n := by rw [htl] at hj; exact hj
    simp [hj']) (by simpa using htl) inv0 (by rw [htl]; exact hlex) h
  refine wp_region_any hm ?_
  have := wpAny_of_headQ (Q' := Q) (g := l.toArray.size - n) (fun listed a' w' hw' hL => by
    have := wpAny_of_seq (md := .any) (Q' := Q) (l.drop n) n listed a' w' (fun j => by simp [List.getElem?_drop]) (by rw [hdl]; exact hL.1) (hL.2 w' hw')
    rwa [hdl] at this) _ _ _ _ hC H
  rw [htl, show n + (l.toArray.size - n) = l.toArray.size by omega] at this
  exact this
theorem wp_region_quiet_tail {id : Nat} {Q : Exit → Act → World → Prop} {a : Act} {w : World} {l : List Oper} (n : Nat) (hm : P.follows .mixedOrders = true) (hB : Region.lexTailB .any l.toArray n = true)
    (h : wpQuiet P l.toArray (fun w' => ∃ p : Regrown, w' = grow (redrawn w p.d) p.os) (fun a' => ∀ w', (∃ p : Regrown, w' = grow (redrawn w p.d) p.os) → wpList P l.toArray Q (l.drop n) a' w') (l.take n) a) : (Code.region id l.toArray true).wp P Q a w :=
  wp_region_quiet_tail_in (C := fun w' => ∃ p : Regrown, w' = grow (redrawn w p.d) p.os) n hm hB ⟨⟨w.drawn + 1, #[]⟩, by rw [grow_empty]; rfl⟩ h
end
end Go.Proofs.YtpklkefnmoaaaaaGreatDoor

/- Texts put into one: RfI RfJ RfK RfL LwB LwC LwD LwR LwBg. -/
import Derived.Test.YtogkfjljdmbogaaDoorRfH
import Derived.Test.YtogkfjljdmbogaaDoorTrD
import Derived.Test.YtogkfjljdmbogaaDoorLwA
import Derived.Test.YtogkfjljdmbogaaDoorLwAw
/- The document's hash: sums, Fold, Root walked. -/
namespace Go.Proofs.YtogkfjljdmbogaaDoor
open Go.RowKit
set_option linter.unusedVariables false
set_option linter.unusedSimpArgs false

theorem stL_last (wd : Int) (l : List Nat) : statesN wd (blocksN (padded l) ((padded l).length / 64)) (blocksN (padded l) ((padded l).length / 64)).length = sumN wd l := by
  rw [states_fold _ _ _ (Nat.le_refl _), List.take_length, sum_blocks]
set_option maxRecDepth 100000 in
set_option maxHeartbeats 4000000 in
theorem r2sum1 (w : World) (wd : Int) (g : Nat) (pv : Value) (l : List Nat) (hg : w.heap[g]? = some (.cells #[pv] 35 (0, 0))) (hv : BsIs w pv l) (hl : l.length ≤ 1000000000) :
    Calls Tryd.prog 50 #[.int .i64 wd, .slice (some ⟨g, 0, none⟩) 1 1] w (Res w [] (.agg (hV (sumN wd l)))) := by
  obtain ⟨w0, rfl⟩ : ∃ w0 : World, w0 = w := ⟨_, rfl⟩
  have hlt := hv.1
  obtain ⟨pa, pcap, rfl⟩ : ∃ a cap, pv = .slice a l.length cap := by obtain ⟨_, a, cap, h, _⟩ := hv; exact ⟨a, cap, h⟩
  have c0 := blk_cell hg 0 rfl
  have hgl := blk_lt hg
  have hm0 := may_alloc_at w0 w0.heap.size 32 zeroHash 26 rfl zeroHash_size
  have k0 : Chg [] w0 (w0.alloc (.cells zeroHash 26)) := (Chg.refl _ _).alloc _
  have hv1 := hv.chg0 k0
  obtain ⟨v1, w1, hr1, h1, c1, b1⟩ := BsIs.append (BOwn.nil (w0.alloc (.cells zeroHash 26)) w0.heap.size) hv1 (by simp; omega) k0.size 35
  rw [List.nil_append] at h1
  have k1 : Chg [] w0 w1 := k0.trans c1 (fun j hj => by simp [ob_nil] at hj)
  have hm1 : may w1 w0.heap.size 0 32 = true := may_chg c1 hm0 (by omega) (by simp [ob_nil])
  have hbl := r2blocks_calls w1 v1 l (h1.bs hlt) hl
  have hso := sum_ok wd l hlt
  have hSi := hV_is _ hso.1 hso.2
  have hst := fun (W : World) (v : Value) (h : AsIs W v (blocksN (padded l) ((padded l).length / 64))) => r2states_calls W wd v _ h (by rw [blocksN_length, padded_length]; unfold padN; omega)
  have hls := stL_last wd l
  have hbl0 : (blocksN (padded l) ((padded l).length / 64)).length ≤ 1000000000 := by rw [blocksN_length, padded_length]; unfold padN; omega
  have s1 := hSi.1
  have s2 := hSi.one
  have HBL := Lib.hid hbl
  have HST := Lib.hid hst
  clear hbl hst h1 hv1 hso hSi hlt hv b1 c1
  generalize hbse : blocksN (padded l) ((padded l).length / 64) = bs at *
  have HBS : Shut (blocksN (padded l) ((padded l).length / 64) = bs) := ⟨hbse⟩
  clear hbse
  have c01 := (k0.cell (p := ⟨g, 0, none⟩) hgl (by simp)).trans c0
  have c11 := (k1.cell (p := ⟨g, 0, none⟩) hgl (by simp)).trans c0
  have hgl0 : g < (w0.alloc (.cells zeroHash 26)).heap.size := by rw [World.size_alloc]; omega
  go_enter Tryd.func50, Tryd.ntmps50
  go_wp2
  go_loopg [5, 6] 1 (fun g' vv ii wx => (g' = 1 ∧ vv = .slice none 0 0 ∧ ii = .int .i64 0 ∧ wx = w0.alloc (.cells zeroHash 26)) ∨ (g' = 0 ∧ vv = v1 ∧ ii = .int .i64 1 ∧ wx = w1))
  case atStart => exact .inl ⟨rfl, rfl, rfl, rfl⟩
  case round =>
    rcases hrel with ⟨hg', rfl, rfl, hw⟩ | ⟨hg', rfl, rfl, hw⟩
    · obtain rfl : w0.alloc (.cells zeroHash 26) = wr := hw.symm
      have HG := Lib.hid hg'
      clear hg'
      go_wp2_with (at_builtin; refine Lib.wpList_append_run _ rfl _ _ _ _ rfl _ _ rfl rfl _ _ hr1 ?_)
      go_roundg 0
      case measure => rw [HG.out]; omega
      case rel => exact .inr ⟨rfl, rfl, rfl, rfl⟩
    · obtain rfl : w1 = wr := hw.symm
      clear hg' hr1
      go_wp2_with fail
      go_at_call 63
      refine HBL.out.mono ?_
      rintro e w2 ⟨bv, rfl, hA, hc2⟩
      rw [HBS.out] at hA
      have hst2 := HST.out w2 bv hA.as
      have HS2 := Lib.hid hst2
      clear hst2 hA
      go_wp2_with fail
      go_at_call 62
      refine HS2.out.mono ?_
      rintro e w3 ⟨sv, rfl, hO, hc3⟩
      obtain ⟨_, ha, hcap, hve, hrw⟩ := hO.hs
      subst hve
      rcases hrw with hrw | ⟨qb, qo, rfl, hqb, hrw⟩
      · have := stL_length wd bs (bs.length + 1); rw [hrw] at this; simp at this
      have hrow := hrw bs.length (by rw [stL_length]; omega)
      rw [stL_at, hls] at hrow
      rw [stL_length]
      have k3 := (k1.nil_trans hc2).nil_trans hc3
      have hm3 := may_chg (hc2.nil_trans hc3) hm1 (by omega) (by simp)
      have lq := World.block_lt_of_cell? _ _ ((rng?_cell hrow).2 0 (by omega))
      have n0 : (0 : Int) ≤ ((bs.length + 1 : Nat) : Int) - 1 := by omega
      have n1 : ((bs.length + 1 : Nat) : Int) - 1 < ((bs.length + 1 : Nat) : Int) := by omega
      have n2 : (((bs.length + 1 : Nat) : Int) - 1).toNat = bs.length := by omega
      have nb : bs.length ≤ 1000000000 := hbl0
      clear hO hrw HS2 HST HBL hls hc2 hc3
      generalize hV (sumN wd l) = S at *
      go_wp2
      refine bodyPost_ret (res_Hash1 rfl _ _ rfl (rng?_setRng_same _ _ _ _ _ hm3 s1)) rfl ⟨rfl, ?_⟩
      exact k3.setRng (.inr (Nat.le_refl _)) _ _
/-! The texts. -/
def TextR (w : World) (l : List Nat) (e : Ending) (w' : World) : Prop := ∃ v, e = .returned v ∧ BsIs w' v l ∧ Chg [] w w'
/-- What two appends to a byte of its own come to. -/
theorem text_runs (W : World) (c : Nat) (hc : c < 256) (s1 s2 : Value) (l r : List Nat) (h1 : BsIs W s1 l) (h2 : BsIs W s2 r) (hl : l.length + r.length ≤ 1000000) :
    ∃ v1 w1 v2 w2, (Builtin.append_ #[35, 35] 35 #[.slice (some ⟨W.heap.size, 0, none⟩) 1 1, s1]).run Tryd.prog (W.alloc (.cells #[.int .u8 c] 5)) = .ok v1 w1 ∧
      (Builtin.append_ #[35, 35] 35 #[v1, s2]).run Tryd.prog w1 = .ok v2 w2 ∧ BsIs w2 v2 (c :: l ++ r) ∧ Chg [] W w2 ∧ Chg [] W w1 := by
  have k0 : Chg [] W (W.alloc (.cells #[.int .u8 c] 5)) := (Chg.refl _ _).alloc _
  have h0 : BOwn (W.alloc (.cells #[.int .u8 c] 5)) W.heap.size (.slice (some ⟨W.heap.size, 0, none⟩) 1 1) [c] := own_new W W.heap.size 5 1 1 #[.int .u8 c] (Nat.le_refl _) rfl (by unfold maxLen; omega)
  obtain ⟨v1, w1, hr1, q1, c1, b1⟩ := BsIs.append h0 (h1.chg0 k0) (by simp; omega) k0.size 35
  have k1 : Chg [] W w1 := k0.trans c1 (fun j hj => .inr (own_lt h0 j hj).1)
  obtain ⟨v2, w2, hr2, q2, c2, b2⟩ := BsIs.append q1 (h2.chg0 k1) (by simp; omega) k1.size 35
  have k2 : Chg [] W w2 := k1.trans c2 (fun j hj => .inr (own_lt q1 j hj).1)
  refine ⟨v1, w1, v2, w2, hr1, hr2, ?_, k2, k1⟩
  have := q2.bs (by
    intro x hx
    simp only [List.mem_append, List.mem_singleton] at hx
    rcases hx with (rfl | h) | h
    · exact hc
    · exact h1.1 x h
    · exact h2.1 x h)
  simpa using this
section
attribute [local go_sem ↓] hold_apY
set_option maxRecDepth 100000 in
theorem r2foldt_calls (w : World) (l r : List Nat) (hl : l.length = 32) (hr : r.length = 32) (hlb : ∀ x ∈ l, x < 256) (hrb : ∀ x ∈ r, x < 256) : Calls Tryd.prog 52 #[.agg (hV l), .agg (hV r)] w (TextR w (2 :: l ++ r)) := by
  have b1 := blk_new w (.cells (hV l) 26)
  have b2 := blk_new (w.alloc (.cells (hV l) 26)) (.cells (hV r) 26)
  rw [World.size_alloc] at b2
  have k0 : Chg [] w ((w.alloc (.cells (hV l) 26)).alloc (.cells (hV r) 26)) := ((Chg.refl _ _).alloc _).alloc _
  have s1 := box_bsG (blk_drew (blk_alloc b1 (.cells (hV r) 26))) hl (by decide) hlb
  have s2 := box_bsG (blk_drew b2) hr (by decide) hrb
  obtain ⟨v1, w1, v2, w2, hr1, hr2, hb, hc, _⟩ := text_runs _ 2 (by omega) _ _ l r s1 s2 (by omega)
  have hrun1 : (apY #[35, 35] 35 #[.slice (some ⟨w.heap.size + 2, 0, none⟩) 1 1, .slice (some ⟨w.heap.size, 0, none⟩) 32 32]).run Tryd.prog ((((w.alloc (.cells (hV l) 26)).alloc (.cells (hV r) 26)).alloc (.cells #[.int .u8 2] 5)).drew) = .ok v1 w1 := by
    have e : (((w.alloc (.cells (hV l) 26)).alloc (.cells (hV r) 26)).drew).heap.size = w.heap.size + 2 := by show ((w.alloc (.cells (hV l) 26)).alloc (.cells (hV r) 26)).heap.size = _; simp
    rw [e] at hr1
    exact hr1
  have hrun2 : (apY #[35, 35] 35 #[v1, .slice (some ⟨w.heap.size + 1, 0, none⟩) 32 32]).run Tryd.prog w1 = .ok v2 w2 := hr2
  have hfin : TextR w (2 :: l ++ r) (.returned v2) w2 := ⟨_, rfl, hb, (k0.drew).nil_trans hc⟩
  have HF := Lib.hid hfin
  clear hfin hb hc hr1 hr2 s1 s2 k0 b1 b2 hlb hrb
  go_enter Tryd.func52, Tryd.ntmps52
  go_upto_region 1 with (fail)
  go_region
  all_goals
    go_wp2
    go_ret
    exact HF.out
end
end Go.Proofs.YtogkfjljdmbogaaDoor

/- The document's hash: RootText, Fold, Root walked. -/
namespace Go.Proofs.YtogkfjljdmbogaaDoor
open Go.RowKit
set_option linter.unusedVariables false
set_option linter.unusedSimpArgs false

section
attribute [local go_sem ↓] hold_apY
set_option maxRecDepth 100000 in
set_option maxHeartbeats 4000000 in
theorem r2roott_calls (w : World) (n : Nat) (hn : n < 18446744073709551616) (l : List Nat) (hl : l.length = 32) (hlb : ∀ x ∈ l, x < 256) : Calls Tryd.prog 51 #[.int .u64 n, .agg (hV l)] w (TextR w (3 :: bigN n 8 ++ l)) := by
  obtain ⟨w0, rfl⟩ : ∃ w0 : World, w0 = w := ⟨_, rfl⟩
  have hin : in8 n 8 = List.replicate 8 0 := by unfold in8; rw [List.drop_of_length_le (by rw [bigN_length]; omega), List.append_nil]
  have b1 := blk_alloc (blk_new w0 (.cells (hV l) 26)) (.cells #[.int .u8 0, .int .u8 0, .int .u8 0, .int .u8 0, .int .u8 0, .int .u8 0, .int .u8 0, .int .u8 0] 100)
  have b2 : ((w0.alloc (.cells (hV l) 26)).alloc (.cells #[.int .u8 0, .int .u8 0, .int .u8 0, .int .u8 0, .int .u8 0, .int .u8 0, .int .u8 0, .int .u8 0] 100)).heap[w0.heap.size + 1]? = some (.cells (hV (in8 n 8)) 100 (0, 0)) := by
    have := blk_new (w0.alloc (.cells (hV l) 26)) (.cells #[.int .u8 0, .int .u8 0, .int .u8 0, .int .u8 0, .int .u8 0, .int .u8 0, .int .u8 0, .int .u8 0] 100)
    rw [World.size_alloc] at this
    rw [hin]
    exact this
  have k0 : Chg [] w0 ((w0.alloc (.cells (hV l) 26)).alloc (.cells #[.int .u8 0, .int .u8 0, .int .u8 0, .int .u8 0, .int .u8 0, .int .u8 0, .int .u8 0, .int .u8 0] 100)) := ((Chg.refl _ _).alloc _).alloc _
  clear hin
  go_enter Tryd.func51, Tryd.ntmps51
  go_wp2
  generalize (w0.alloc (.cells (hV l) 26)).alloc (.cells #[.int .u8 0, .int .u8 0, .int .u8 0, .int .u8 0, .int .u8 0, .int .u8 0, .int .u8 0, .int .u8 0] 100) = w2 at *
  go_loopg [0, 6] 8 (fun g xx jj wx => ∃ c : Nat, c ≤ 8 ∧ g = c ∧ jj = .int .i64 ((c : Int) - 1) ∧ xx = .int .u64 (n / 256 ^ (8 - c) : Nat) ∧ wx.heap[w0.heap.size + 1]? = some (.cells (hV (in8 n c)) 100 (0, 0)) ∧ wx.heap[w0.heap.size]? = some (.cells (hV l) 26 (0, 0)) ∧ Chg [] w0 wx)
  case atStart => exact ⟨8, by omega, rfl, rfl, by simp, b2, b1, k0⟩
  case round =>
    clear b1 b2 k0
    obtain ⟨c, hc, hg, rfl, rfl, hbx, hba, hC⟩ := hrel
    cases c with
    | succ k =>
      have hk8 : k < 8 := hc
      have hst := in8_step n k hk8
      have hil := in8_length n (k + 1) (by omega)
      rw [show (((k + 1 : Nat) : Int) - 1) = (k : Int) from by omega, show 8 - (k + 1) = 7 - k from by omega]
      have hdv : n / 256 ^ (8 - k) = n / 256 ^ (7 - k) / 256 := by rw [Nat.div_div_eq_div_mul, ← Nat.pow_succ, show (7 - k).succ = 8 - k from by omega]
      have hxl : n / 256 ^ (7 - k) ≤ n := Nat.div_le_self _ _
      have hcell := blk_cell hbx k (hV_at (in8 n (k + 1)) k (by omega))
      have hfr := blk_frozen hbx k
      have hnb := blk_set hbx k (.int .u8 (n / 256 ^ (7 - k) % 256 : Nat))
      rw [hV_set, hst] at hnb
      have hcx := hC.setCell (p := ⟨w0.heap.size + 1, k, none⟩) (.inr (by show w0.heap.size ≤ w0.heap.size + 1; omega)) (.int .u8 (n / 256 ^ (7 - k) % 256 : Nat))
      have hba2 := blk_far hba (a := ⟨w0.heap.size + 1, k, none⟩) (by simp) (.int .u8 (n / 256 ^ (7 - k) % 256 : Nat))
      have hbl := blk_lt hbx
      generalize n / 256 ^ (7 - k) = x' at *
      have hx64 : x' < 18446744073709551616 := by omega
      have hm : ((x' : Int)) % 256 = ((x' % 256 : Nat) : Int) := by omega
      have hmb : x' % 256 < 256 := Nat.mod_lt _ (by decide)
      generalize x' % 256 = bb at *
      have q0 : (0 : Int) ≤ (k : Int) := by omega
      have q1 : (k : Int) < 8 := by omega
      have HNB := Lib.hid hnb
      have HCX := Lib.hid hcx
      have HDV := Lib.hid hdv
      have HBA := Lib.hid hba2
      have HG := Lib.hid hg
      clear hst hil hnb hcx hdv hbx hC hg hba hba2 hxl hn
      go_wp2
      go_roundg k
      case measure => rw [HG.out]; omega
      case rel => exact ⟨k, by omega, rfl, by go_num, by rw [HDV.out]; go_num, HNB.out, HBA.out, HCX.out⟩
    | zero =>
      rw [in8_end] at hbx
      clear hg
      have s1 : BsIs wr.drew (.slice (some ⟨w0.heap.size + 1, 0, none⟩) 8 8) (bigN n 8) := box_bsG (blk_drew hbx) (bigN_length _ _) (by decide) (bigN_lt _ _)
      have s2 : BsIs wr.drew (.slice (some ⟨w0.heap.size, 0, none⟩) 32 32) l := box_bsG (blk_drew hba) hl (by decide) hlb
      obtain ⟨v1, w1, v2, w3, hr1, hr2, hb, hc3, _⟩ := text_runs _ 3 (by omega) _ _ _ _ s1 s2 (by rw [bigN_length]; omega)
      have hrun1 : (apY #[35, 35] 35 #[.slice (some ⟨wr.heap.size, 0, none⟩) 1 1, .slice (some ⟨w0.heap.size + 1, 0, none⟩) 8 8]).run Tryd.prog ((wr.alloc (.cells #[.int .u8 3] 5)).drew) = .ok v1 w1 := hr1
      have hrun2 : (apY #[35, 35] 35 #[v1, .slice (some ⟨w0.heap.size, 0, none⟩) 32 32]).run Tryd.prog w1 = .ok v2 w3 := hr2
      have hfin : TextR w0 (3 :: bigN n 8 ++ l) (.returned v2) w3 := ⟨_, rfl, hb, (hC.drew).nil_trans hc3⟩
      have HF := Lib.hid hfin
      have hl1 := blk_lt hbx
      have hl2 := blk_lt hba
      clear hfin hb hc3 hr1 hr2 s1 s2 hbx hba hC hlb hn
      go_upto_region 7 with (fail)
      go_region
      all_goals
        go_wp2
        go_ret
        exact HF.out
end
set_option maxRecDepth 100000 in
theorem r2fold_calls (w : World) (wd : Int) (l r : List Nat) (hl : l.length = 32) (hr : r.length = 32) (hlb : ∀ x ∈ l, x < 256) (hrb : ∀ x ∈ r, x < 256) :
    Calls Tryd.prog 34 #[.int .i64 wd, .agg (hV l), .agg (hV r)] w (Res w [] (.agg (hV (foldN wd l r)))) := by
  have hso := sum_ok wd (2 :: l ++ r) (text_lt 2 l r (by decide) hlb hrb)
  have htx := fun W => r2foldt_calls W l r hl hr hlb hrb
  have hsm := fun (W : World) (g : Nat) (pv : Value) (hg : W.heap[g]? = some (.cells #[pv] 35 (0, 0))) (hv : BsIs W pv (2 :: l ++ r)) => r2sum1 W wd g pv _ hg hv (by simp; omega)
  have hc0 : Chg [] w (((w.alloc (.cells (hV l) 26)).alloc (.cells (hV r) 26)).alloc (.cells zeroHash 26)) := (((Chg.refl _ _).alloc _).alloc _).alloc _
  have hm0 : may (((w.alloc (.cells (hV l) 26)).alloc (.cells (hV r) 26)).alloc (.cells zeroHash 26)) (w.heap.size + 2) 0 32 = true := by
    have := may_alloc_at ((w.alloc (.cells (hV l) 26)).alloc (.cells (hV r) 26)) _ 32 zeroHash 26 rfl zeroHash_size
    simpa using this
  have hSM : foldN wd l r = sumN wd (2 :: l ++ r) := rfl
  rw [hSM]
  clear hlb hrb hSM
  have hs1 := (hV_is _ hso.1 hso.2).1
  have hs2 := (hV_is _ hso.1 hso.2).one
  generalize sumN wd (2 :: l ++ r) = sm at *
  go_enter Tryd.func34, Tryd.ntmps34
  go_wp2_with fail
  go_at_call 52
  refine (htx _).mono ?_
  rintro e w1 ⟨v, rfl, hv, hc1⟩
  obtain ⟨va, vn, vc, rfl⟩ := hv.form
  have hm1 := may_chg hc1 hm0 (by omega) (by simp)
  have hC1 := hc0.nil_trans hc1
  have hsu := hsm (w1.alloc (.cells #[.slice va vn vc] 35)) w1.heap.size (.slice va vn vc) (blk_new w1 _) (hv.chg0 ((Chg.refl [] w1).alloc _))
  have hm2 : may (w1.alloc (.cells #[.slice va vn vc] 35)) (w.heap.size + 2) 0 32 = true := may_chg ((Chg.refl [] w1).alloc _) hm1 (by omega) (by simp)
  clear hv hsm htx hso
  go_wp2_with fail
  go_at_call 50
  refine hsu.mono ?_
  rintro e w3 ⟨rfl, hc3⟩
  have hm3 := may_chg hc3 hm2 (by omega) (by simp)
  go_wp2
  refine bodyPost_ret (res_Hash1 rfl _ _ rfl (rng?_setRng_same _ _ _ _ _ hm3 hs1)) rfl ⟨rfl, ?_⟩
  exact Chg.setRng ((hC1.alloc _).nil_trans hc3) (.inr (by show w.heap.size ≤ w.heap.size + 2; omega)) _ _
set_option maxRecDepth 100000 in
theorem r2root_calls (w : World) (wd : Int) (n : Nat) (hn : n < 18446744073709551616) (l : List Nat) (hl : l.length = 32) (hlb : ∀ x ∈ l, x < 256) :
    Calls Tryd.prog 33 #[.int .i64 wd, .int .u64 n, .agg (hV l)] w (Res w [] (.agg (hV (rootN wd n l)))) := by
  have hso := sum_ok wd (3 :: bigN n 8 ++ l) (text_lt 3 _ l (by decide) (bigN_lt _ _) hlb)
  have htx := fun W => r2roott_calls W n hn l hl hlb
  have hsm := fun (W : World) (g : Nat) (pv : Value) (hg : W.heap[g]? = some (.cells #[pv] 35 (0, 0))) (hv : BsIs W pv (3 :: bigN n 8 ++ l)) => r2sum1 W wd g pv _ hg hv (by simp [bigN_length]; omega)
  have hc0 : Chg [] w ((w.alloc (.cells (hV l) 26)).alloc (.cells zeroHash 26)) := ((Chg.refl _ _).alloc _).alloc _
  have hm0 : may ((w.alloc (.cells (hV l) 26)).alloc (.cells zeroHash 26)) (w.heap.size + 1) 0 32 = true := by
    have := may_alloc_at (w.alloc (.cells (hV l) 26)) _ 32 zeroHash 26 rfl zeroHash_size
    simpa using this
  have hSM : rootN wd n l = sumN wd (3 :: bigN n 8 ++ l) := rfl
  rw [hSM]
  clear hlb hSM
  have hs1 := (hV_is _ hso.1 hso.2).1
  have hs2 := (hV_is _ hso.1 hso.2).one
  generalize sumN wd (3 :: bigN n 8 ++ l) = sm at *
  go_enter Tryd.func33, Tryd.ntmps33
  go_wp2_with fail
  go_at_call 51
  refine (htx _).mono ?_
  rintro e w1 ⟨v, rfl, hv, hc1⟩
  obtain ⟨va, vn, vc, rfl⟩ := hv.form
  have hm1 := may_chg hc1 hm0 (by omega) (by simp)
  have hC1 := hc0.nil_trans hc1
  have hsu := hsm (w1.alloc (.cells #[.slice va vn vc] 35)) w1.heap.size (.slice va vn vc) (blk_new w1 _) (hv.chg0 ((Chg.refl [] w1).alloc _))
  have hm2 : may (w1.alloc (.cells #[.slice va vn vc] 35)) (w.heap.size + 1) 0 32 = true := may_chg ((Chg.refl [] w1).alloc _) hm1 (by omega) (by simp)
  clear hv hsm htx hso
  go_wp2_with fail
  go_at_call 50
  refine hsu.mono ?_
  rintro e w3 ⟨rfl, hc3⟩
  have hm3 := may_chg hc3 hm2 (by omega) (by simp)
  go_wp2
  refine bodyPost_ret (res_Hash1 rfl _ _ rfl (rng?_setRng_same _ _ _ _ _ hm3 hs1)) rfl ⟨rfl, ?_⟩
  exact Chg.setRng ((hC1.alloc _).nil_trans hc3) (.inr (by show w.heap.size ≤ w.heap.size + 1; omega)) _ _
end Go.Proofs.YtogkfjljdmbogaaDoor

/- The document's places: Power, Tops walked. -/
namespace Go.Proofs.YtogkfjljdmbogaaDoor
open Go.RowKit
set_option linter.unusedVariables false
set_option linter.unusedSimpArgs false

theorem r3power_calls (n : Nat) (hn : n ≤ 62) (w : World) : Calls Tryd.prog 49 #[.int .i64 n] w fun e w' => e = .returned (.int .u64 (2 ^ n : Nat)) ∧ w' = w := by
  go_enter Tryd.func49, Tryd.ntmps49
  go_wp2
  go_loopg [3, 4] n (fun g pp ii wx => ∃ i : Nat, i ≤ n ∧ g = n - i ∧ pp = .int .u64 (2 ^ i : Nat) ∧ ii = .int .i64 i ∧ wx = w)
  case atStart => exact ⟨0, by omega, by omega, rfl, rfl, rfl⟩
  case round =>
    obtain ⟨i, hi, hg, rfl, rfl, hw⟩ := hrel
    obtain rfl : w = wr := hw.symm
    by_cases hlt : i < n
    · have hlt' := hlt
      have hp := Nat.pow_le_pow_right (show 0 < 2 from by omega) (show i ≤ 61 from by omega)
      have hs : 2 ^ (i + 1) = 2 * 2 ^ i := by rw [Nat.pow_succ]; omega
      have HS := Lib.hid hs
      have HG := Lib.hid hg
      clear hs hg
      generalize 2 ^ i = P at *
      have hp2 : P ≤ 2305843009213693952 := hp
      go_wp2
      go_roundg (n - (i + 1))
      case measure => rw [HG.out]; omega
      case rel => exact ⟨i + 1, by omega, rfl, by rw [HS.out]; go_num, by go_num, rfl⟩
    · obtain rfl : i = n := by omega
      clear hg
      go_wp2
      go_ret
      exact ⟨rfl, rfl⟩
/-- The spots of the peaks of the c greatest heights. -/
def toL (n c : Nat) : List (Nat × Nat) := (((List.range c).map (62 - ·)).filter (fun h => n / 2 ^ h % 2 == 1)).map fun h => (h, n / 2 ^ h - 1)
theorem toL_succ (n c : Nat) : toL n (c + 1) = if n / 2 ^ (62 - c) % 2 = 1 then toL n c ++ [(62 - c, n / 2 ^ (62 - c) - 1)] else toL n c := by
  unfold toL
  rw [List.range_succ, List.map_append, List.filter_append, List.map_append]
  by_cases h : n / 2 ^ (62 - c) % 2 = 1
  · rw [if_pos h]; simp [h]
  · rw [if_neg h]; simp [h]
def topsN (n : Nat) : List (Nat × Nat) := toL n 63
theorem toL_len (n c : Nat) : (toL n c).length = (pkL n c).length := by unfold toL pkL; simp
theorem toL_le (n c : Nat) : (toL n c).length ≤ c := by rw [toL_len]; exact pkL_len n c
theorem tops_length (n : Nat) (hn : n < 2 ^ 63) : (topsN n).length = popc n := by
  rw [← peaks_length n hn]
  exact toL_len n 63
/-! Rows of spots of the call's own. -/
def spC (l : List (Nat × Nat)) : List Value := l.flatMap fun x => [.int .u8 (x.1 : Int), .int .u64 (x.2 : Int)]
theorem u_spots : Tryd.prog.underlying 60 = some (.slice 75) := by kernel_rfl
theorem i_Spot : (Tryd.prog.info? 75).map (fun i => (i.zero, i.size, i.bytes)) = some (some (.agg #[.int .u8 0, .int .u64 0]), 2, 16) := by kernel_rfl
def SpOwn (w : World) (B : Nat) (v : Value) (l : List (Nat × Nat)) : Prop := w.ownsRow B 75 2 v l.length (spC l)
theorem SpOwn.nil (w : World) (B : Nat) : SpOwn w B (.slice none 0 0) [] := own_nil _ _ _ _
theorem SpOwn.push {w : World} {B : Nat} {v : Value} {l : List (Nat × Nat)} (h : SpOwn w B v l) (x : Nat × Nat) (hlen : l.length ≤ 1000000) (hB : B ≤ w.heap.size) (ty : TypeId) :
    ∃ v' w', (Builtin.append_ #[60, 60] ty #[v, .slice (some ⟨w.heap.size, 0, none⟩) 1 1]).run Tryd.prog (w.alloc (.cells #[.int .u8 (x.1 : Int), .int .u64 (x.2 : Int)] 75)) = .ok v' w' ∧ SpOwn w' B v' (l ++ [x]) ∧ Chg (ob v) w w' := by
  obtain ⟨i, hi, hz, hsz, hby⟩ := infoOf i_Spot
  have hc : Chg [] w (w.alloc (.cells #[.int .u8 (x.1 : Int), .int .u64 (x.2 : Int)] 75)) := (Chg.refl _ _).alloc _
  have h1 := own_chg h hc (by simp)
  obtain ⟨v', w', hr, h2, h3, h4⟩ := run_append_any (P := Tryd.prog) (w.alloc (.cells #[.int .u8 (x.1 : Int), .int .u64 (x.2 : Int)] 75)) B 60 ty 75 i _ 2 16 u_spots hi hz hsz hby rfl (by decide) v l.length _ h1 (some ⟨w.heap.size, 0, none⟩) 1 1 [.int .u8 (x.1 : Int), .int .u64 (x.2 : Int)]
    ⟨rfl, fun _ => ⟨w.heap.size, 0, rfl, fun j u hu => by
      rw [Nat.zero_add]
      refine blk_cell (blk_new w _) j ?_
      match j, hu with
      | 0, hu => simpa using hu
      | 1, hu => simpa using hu
      | j + 2, hu => simp at hu⟩⟩ (by intro u hu; simp at hu; rcases hu with rfl | rfl <;> rfl) (by unfold maxLen; omega) (by omega) (by have := hc.size; omega)
  refine ⟨v', w', hr, ?_, hc.of_nil.trans h3 (fun k hk => .inl hk)⟩
  unfold SpOwn
  rw [List.length_append, show spC (l ++ [x]) = spC l ++ [.int .u8 (x.1 : Int), .int .u64 (x.2 : Int)] from by simp [spC]]
  exact h2
def TopsP (w : World) (n : Nat) (e : Ending) (w' : World) : Prop := ∃ v, e = .returned v ∧ SpOwn w' w.heap.size v (topsN n) ∧ Chg [] w w'
theorem half_pow (n h : Nat) : n / 2 ^ (h + 1) = n / 2 ^ h / 2 := by rw [Nat.div_div_eq_div_mul, ← Nat.pow_succ]
theorem tops_step (n h : Nat) (hn : n ≤ 4611686018427387904) : ∃ P A q : Nat, P = 2 ^ h ∧ A = n / 2 ^ (h + 1) * 2 ^ (h + 1) ∧ 0 < P ∧ A ≤ n ∧
    (n / 2 ^ h % 2 = 1 → A + P ≤ n ∧ n / 2 ^ h * 2 ^ h = A + P ∧ n / 2 ^ h - 1 = q ∧ A / P = q ∧ q ≤ 4611686018427387904) ∧ (¬ n / 2 ^ h % 2 = 1 → n < A + P ∧ n / 2 ^ h * 2 ^ h = A) := by
  have hP := Nat.two_pow_pos h
  have h2 : n / 2 ^ (h + 1) * 2 ^ (h + 1) = n / 2 ^ h / 2 * 2 * 2 ^ h := by rw [half_pow, Nat.pow_succ, Nat.mul_assoc, Nat.mul_comm (2 ^ h) 2]
  have hle := Nat.div_mul_le_self n (2 ^ h)
  have hlt := Nat.lt_div_mul_add (a := n) hP
  have hle2 := Nat.div_mul_le_self n (2 ^ (h + 1))
  refine ⟨2 ^ h, _, n / 2 ^ h / 2 * 2, rfl, rfl, hP, hle2, ?_, ?_⟩
  · intro hb
    rw [h2] at hle2 ⊢
    generalize 2 ^ h = P at *
    generalize n / P = k at *
    have hk : k = k / 2 * 2 + 1 := by clear hle hlt hle2 h2; omega
    have hs : k * P = k / 2 * 2 * P + P := by rw [← Nat.succ_mul, Nat.succ_eq_add_one, ← hk]
    have hdv : k / 2 * 2 * P / P = k / 2 * 2 := Nat.mul_div_cancel _ hP
    have hq := Nat.le_mul_of_pos_right (k / 2 * 2) hP
    generalize k / 2 * 2 = q at *
    subst hk
    exact ⟨by rw [← hs]; exact hle, hs, by rw [Nat.add_sub_cancel], hdv, Nat.le_trans hq (Nat.le_trans hle2 hn)⟩
  · intro hb
    rw [h2] at hle2 ⊢
    generalize 2 ^ h = P at *
    generalize n / P = k at *
    have hk : k = k / 2 * 2 := by clear hle hlt hle2 h2; omega
    rw [← hk]
    exact ⟨hlt, rfl⟩
set_option maxRecDepth 100000 in
set_option maxHeartbeats 4000000 in
theorem r3tops_calls (n : Nat) (hn : n ≤ 4611686018427387904) (w : World) : Calls Tryd.prog 32 #[.int .u64 n] w (TopsP w n) := by
  obtain ⟨w0, rfl⟩ : ∃ w0 : World, w0 = w := ⟨_, rfl⟩
  have hnd : decide ((4611686018427387904 : Int) < (n : Int)) = false := decide_eq_false (by omega)
  have hn63 : n / 2 ^ 63 = 0 := Nat.div_eq_of_lt (by have : (2 : Nat) ^ 63 = 9223372036854775808 := by decide
                                                     omega)
  go_enter Tryd.func32, Tryd.ntmps32
  go_wp2
  go_loopg [3, 4, 5] 63 (fun g vv aa hh wx => ∃ c : Nat, c ≤ 63 ∧ g = 63 - c ∧ hh = .int .i64 (62 - (c : Int)) ∧ aa = .int .u64 (n / 2 ^ (63 - c) * 2 ^ (63 - c) : Nat) ∧ SpOwn wx w0.heap.size vv (toL n c) ∧ Chg [] w0 wx)
  case atStart => exact ⟨0, by omega, rfl, rfl, by rw [Nat.sub_zero, hn63]; simp, SpOwn.nil _ _, Chg.refl _ _⟩
  case round =>
    obtain ⟨c, hc, hg, rfl, rfl, hO, hC⟩ := hrel
    by_cases h63 : c = 63
    · subst h63
      clear hg
      go_wp2
      go_ret
      exact ⟨_, rfl, hO, hC⟩
    · have hcl : c ≤ 62 := by omega
      have hsu := toL_succ n c
      have hlen := toL_le n c
      have ec : ((62 - c : Nat) : Int) = 62 - (c : Int) := by omega
      obtain ⟨h, hh⟩ : ∃ h, h = 62 - c := ⟨_, rfl⟩
      rw [← hh] at hsu ec
      have hnx : n / 2 ^ (63 - (c + 1)) * 2 ^ (63 - (c + 1)) = n / 2 ^ h * 2 ^ h := by rw [show 63 - (c + 1) = h from by omega]
      rw [← ec, show 63 - c = h + 1 from by omega]
      have h62 : h ≤ 62 := by omega
      have hpw := fun W => r3power_calls h h62 W
      have hp4 : 2 ^ h ≤ 4611686018427387904 := Nat.pow_le_pow_right (show 0 < 2 from by omega) h62
      obtain ⟨P, A, q, eP, eA, hP, hAn, hyes, hno⟩ := tops_step n h hn
      rw [← eA]
      rw [← eP] at hpw hp4
      have HH := Lib.hid hh
      have HG := Lib.hid hg
      clear ec
      by_cases hb : n / 2 ^ h % 2 = 1
      · replace hsu := hsu.trans (if_pos hb)
        obtain ⟨hAP, hnn, hq, hdv, hq4⟩ := hyes hb
        rw [hnn] at hnx
        rw [hq] at hsu
        have HNX := Lib.hid hnx
        have HSU := Lib.hid hsu
        have hdi : (A : Int) / (P : Int) = (q : Int) := by rw [← Int.natCast_ediv, hdv]
        have hge : decide ((P : Int) ≤ (n : Int) - (A : Int)) = true := decide_eq_true (by clear hyes hno hsu hnx hdv hdi hq hnn eP eA hb; omega)
        clear hyes hno hsu hnx hdv hq hnn eP eA hb hh hg hn63
        go_upto_region 9 with (go_at_call 49; refine (hpw _).mono ?_; rintro e w1 ⟨rfl, hw1⟩; obtain rfl : wr = w1 := hw1.symm)
        obtain ⟨v2, w2, hrun, hO2, hc2⟩ := SpOwn.push hO (h, q) (by omega) hC.size 60
        have hol := own_lt hO
        have HW : Chg [] w0 w2 := hC.trans hc2 (fun k hk => .inr (hol k hk).1)
        have HO2 := Lib.hid hO2
        clear hO hol hO2 hc2
        go_wp2_with (first
          | (go_at_call 49; refine (hpw _).mono ?_; rintro e w3 ⟨rfl, hw3⟩; first | obtain rfl : wr = w3 := hw3.symm | obtain rfl : w2 = w3 := hw3.symm)
          | (at_builtin; refine Lib.wpList_append_run _ rfl _ _ _ _ rfl _ _ rfl rfl _ _ hrun ?_))
        go_roundg (63 - (c + 1))
        case measure => rw [HG.out]; omega
        case rel => exact ⟨c + 1, by omega, rfl, by rw [show (h : Int) - 1 = 62 - ((c + 1 : Nat) : Int) from by have := HH.out; omega], by rw [HNX.out]; go_num, by rw [HSU.out]; exact HO2.out, HW⟩
      · replace hsu := hsu.trans (if_neg hb)
        obtain ⟨hAP, hnn⟩ := hno hb
        rw [hnn] at hnx
        have HNX := Lib.hid hnx
        have HSU := Lib.hid hsu
        have hge : decide ((P : Int) ≤ (n : Int) - (A : Int)) = false := decide_eq_false (by clear hyes hno hsu hnx hnn eP eA hb; omega)
        clear hyes hno hsu hnx hnn eP eA hb hh hg hn63
        go_wp2_with (go_at_call 49; refine (hpw _).mono ?_; rintro e w1 ⟨rfl, hw1⟩; obtain rfl : wr = w1 := hw1.symm)
        go_roundg (63 - (c + 1))
        case measure => rw [HG.out]; omega
        case rel => exact ⟨c + 1, by omega, rfl, by rw [show (h : Int) - 1 = 62 - ((c + 1 : Nat) : Int) from by have := HH.out; omega], by rw [HNX.out], by rw [HSU.out]; exact hO, hC⟩
end Go.Proofs.YtogkfjljdmbogaaDoor

/- The document's Bag walked; what both Bags answer. -/
namespace Go.Proofs.YtogkfjljdmbogaaDoor
open Go.RowKit
set_option linter.unusedVariables false
set_option linter.unusedSimpArgs false

theorem r2foldA_calls (w : World) (wd : Int) {x y : Array Value} (hx : IsHash x) (hy : IsHash y) : Calls Tryd.prog 34 #[.int .i64 wd, .agg x, .agg y] w (Res w [] (.agg (foldA wd x y))) := by
  obtain ⟨e1, l1, b1⟩ := hx.toN
  obtain ⟨e2, l2, b2⟩ := hy.toN
  have := r2fold_calls w wd _ _ l1 l2 b1 b2
  rw [e1, e2] at this
  exact this
theorem r2rootA_calls (w : World) (wd : Int) (n : Nat) (hn : n < 18446744073709551616) {x : Array Value} (hx : IsHash x) : Calls Tryd.prog 33 #[.int .i64 wd, .int .u64 n, .agg x] w (Res w [] (.agg (rootA wd n x))) := by
  obtain ⟨e1, l1, b1⟩ := hx.toN
  have := r2root_calls w wd n hn _ l1 b1
  rw [e1] at this
  exact this
theorem popc_pos : ∀ (k n : Nat), n < 2 ^ k → popc n = 0 → n = 0
  | 0, n, h, _ => by omega
  | k + 1, n, h, h0 => by
    rw [popc_two] at h0
    have := popc_pos k (n / 2) (by omega) (by omega)
    omega
theorem SpOwn.form {w : World} {B : Nat} {v : Value} {l : List (Nat × Nat)} (h : SpOwn w B v l) : ∃ a cap, v = .slice a l.length cap := by
  rcases h.2 with ⟨rfl, h0⟩ | ⟨g, cap, cur, rfl, _⟩
  · exact ⟨none, 0, by rw [h0]⟩
  · exact ⟨_, _, rfl⟩
structure BagJ (w0 wr : World) (L : Nat) (wd : Int) (hs : List (Array Value)) (c : Nat) : Prop where
  box : wr.heap[L]? = some (.cells (accA wd (hs.drop c)) 26 (0, 0))
  res : may wr w0.heap.size 0 32 = true
  chg : Chg [] w0 wr
  low : w0.heap.size < L
theorem BagJ.set {w0 wr W : World} {L : Nat} {wd : Int} {hs : List (Array Value)} {c c' : Nat} {x : Array Value} (h : BagJ w0 wr L wd hs c) (hW : Chg [] wr W) (hi : ∀ y ∈ hs, IsHash y) (hx : x = accA wd (hs.drop c')) : BagJ w0 (setRng W L 0 x) L wd hs c' := by
  have h1 : IsHash (accA wd (hs.drop c)) := accA_is wd _ (fun y hy => hi y (List.mem_of_mem_drop hy))
  have h2 : IsHash (accA wd (hs.drop c')) := accA_is wd _ (fun y hy => hi y (List.mem_of_mem_drop hy))
  have hl := h.low
  subst hx
  exact ⟨bag_box (hW.at h.box (by simp)) h1.1 h2.1, may_setRng _ _ _ _ _ _ _ (may_chg hW h.res (by have := Chg.size h.chg; have := blk_lt h.box; omega) (by simp)), (h.chg.nil_trans hW).setRng (.inr (by omega)) _ _, h.low⟩
theorem BagJ.start {w w1 : World} {wd : Int} {hs : List (Array Value)} (hC : Chg [] (w.alloc (.cells zeroHash 26)) w1) {x : Array Value} {c : Nat} (hx : x = accA wd (hs.drop c)) : BagJ w (w1.alloc (.cells x 26)) w1.heap.size wd hs c := by
  have hs1 := Chg.size hC
  rw [World.size_alloc] at hs1
  refine ⟨?_, ?_, (((Chg.refl _ _).alloc _).nil_trans hC).alloc _, by omega⟩
  · rw [← hx]
    exact blk_new w1 _
  · have := may_alloc_at w w.heap.size 32 zeroHash 26 rfl zeroHash_size
    exact may_chg (hC.alloc _) this (by omega) (by simp)
set_option maxRecDepth 100000 in
set_option maxHeartbeats 8000000 in
theorem r6bag_calls (w : World) (wd : Int) (n : Nat) (v : Value) (hs : List (Array Value)) (hv : HsIs w v hs) (hn : n ≤ 4611686018427387904) (hl : hs.length = popc n) :
    Calls Tryd.prog 9 #[.int .i64 wd, .int .u64 n, v] w (Res w [] (.tuple #[.agg (bagA wd n hs), .int .i64 0])) := by
  obtain ⟨hI, a, cap, rfl, hr⟩ := hv
  have hpo := popc_le n 63 (by have : (2 : Nat) ^ 63 = 9223372036854775808 := by decide
                               omega)
  have hzero := popc_pos 63 n (by have : (2 : Nat) ^ 63 = 9223372036854775808 := by decide
                                  omega)
  have htl := tops_length n (by have : (2 : Nat) ^ 63 = 9223372036854775808 := by decide
                                omega)
  have htop := fun W => r3tops_calls n hn W
  rw [← hl] at hpo hzero htl
  have hacc := accA_is wd
  have hnd : decide ((4611686018427387904 : Int) < (n : Int)) = false := decide_eq_false (by omega)
  obtain ⟨w0, rfl⟩ : ∃ w0 : World, w0 = w := ⟨_, rfl⟩
  have hm0 : ∀ w1, Chg [] (w0.alloc (.cells zeroHash 26)) w1 → may w1 w0.heap.size 0 32 = true := fun w1 hC => may_chg hC (may_alloc_at w0 w0.heap.size 32 zeroHash 26 rfl zeroHash_size) (by omega) (by simp)
  have hc0 : ∀ w1, Chg [] (w0.alloc (.cells zeroHash 26)) w1 → Chg [] w0 w1 := fun w1 hC => ((Chg.refl [] w0).alloc _).nil_trans hC
  have HM0 := Lib.hid hm0
  have HC0 := Lib.hid hc0
  have HTL := Lib.hid htl
  clear hl htl hm0 hc0
  by_cases h0 : hs.length = 0
  · obtain rfl := hzero h0
    obtain rfl : hs = [] := List.eq_nil_of_length_eq_zero h0
    have hz := zeroHash_is
    have hrt := fun W => r2rootA_calls W wd 0 (by omega) hz
    have hri := (rootA_is wd 0 hz).1
    have hri2 := (rootA_is wd 0 hz).one
    have HR : Shut (bagA wd 0 [] = rootA wd 0 zeroHash) := ⟨rfl⟩
    clear hacc hz hr hI h0 hpo hzero
    generalize bagA wd 0 [] = BB at *
    generalize rootA wd 0 zeroHash = R at *
    rw [List.length_nil] at *
    go_enter Tryd.func9, Tryd.ntmps9
    go_wp2_with (first
      | (go_at_call 32; refine (htop _).mono ?_; rintro e w1 ⟨v1, rfl, hO, hC⟩; obtain ⟨a1, cap1, rfl⟩ := hO.form; rw [HTL.out])
      | (go_at_call 33; refine (hrt _).mono ?_; rintro e w3 ⟨rfl, hc3⟩; have hm3 := HM0.out w3 (hC.nil_trans hc3)))
    refine bodyPost_ret (res_Hash2 rfl _ _ rfl (rng?_setRng_same _ _ _ _ _ hm3 hri)) rfl ⟨by rw [HR.out]; rfl, ?_⟩
    exact (HC0.out _ (hC.nil_trans hc3)).setRng (.inr (Nat.le_refl _)) _ _
  · obtain ⟨m, hm⟩ : ∃ m, hs.length = m + 1 := ⟨hs.length - 1, by omega⟩
    have hml : m < hs.length := by omega
    rcases hr with hr | ⟨pb, po, rfl, hpb, hr⟩
    · subst hr; simp at hml
    have hrm := hr m hml
    have hIm := hI hs[m] (List.getElem_mem hml)
    have hxm : hs[m] = accA wd (hs.drop m) := by
      rw [List.drop_eq_getElem_cons hml, ← hm, List.drop_length]
      rfl
    have hset := fun (w1 : World) hC => BagJ.start (w := w0) (w1 := w1) (wd := wd) (hs := hs) hC hxm
    have hrow1 := fun (w1 : World) (hC : Chg [] (w0.alloc (.cells zeroHash 26)) w1) => rng?_chg (HC0.out w1 hC) hrm (by omega) (by simp)
    have hlk1 := fun (w1 : World) (hC : Chg [] (w0.alloc (.cells zeroHash 26)) w1) => World.block_lt_of_cell? _ _ ((rng?_cell (hrow1 w1 hC)).2 0 (by rw [(rng?_cell (hrow1 w1 hC)).1]; omega))
    have HSET := Lib.hid hset
    replace HTL := Lib.hid (HTL.out.trans hm)
    have HM := Lib.hid hm
    have HR := Lib.hid hr
    have HI := Lib.hid hI
    have HROW := Lib.hid hrow1
    have HLK := Lib.hid hlk1
    have hs1 := hIm.1
    have hs2 := hIm.one
    clear hset hrow1 hlk1 hxm hIm hrm h0
    rw [hm] at hpo hml ⊢
    generalize hs[m] = x at *
    go_enter Tryd.func9, Tryd.ntmps9
    go_wp2_with (first
      | (go_at_call 32; refine (htop _).mono ?_; rintro e w1 ⟨v1, rfl, hO, hC⟩; obtain ⟨a1, cap1, rfl⟩ := hO.form; rw [HTL.out]; have hrw := HROW.out w1 hC; have hlk := HLK.out w1 hC))
    have hJ0 := HSET.out w1 hC
    have HJ0 := Lib.hid hJ0
    clear hJ0 hrw
    obtain ⟨L, hL⟩ : ∃ L, L = w1.heap.size := ⟨_, rfl⟩
    rw [← hL] at HJ0 ⊢
    clear hL hlk hO
    have hrm' := HR.out
    clear hr
    go_loopg [9] m (fun g ii wx => ∃ c : Nat, c ≤ m ∧ g = c ∧ ii = .int .i64 ((c : Int) - 1) ∧ BagJ w0 wx L wd hs c)
    case atStart => exact ⟨m, Nat.le_refl _, rfl, by go_num, HJ0.out⟩
    case round =>
      obtain ⟨c, hc, hg, rfl, hB⟩ := hrel
      have hlb := blk_lt hB.box
      cases c with
      | zero =>
        have hai := hacc hs HI.out
        have hrt := fun W => r2rootA_calls W wd n (by omega) hai
        have hri := rootA_is wd n hai
        have hbx := hB.box
        rw [List.drop_zero] at hbx
        have hlr := rng?_row hbx hai.1
        have hrs := hB.res
        have hch := hB.chg
        have hsl := hri.1
        have hro := hri.one
        have HRR : Shut (bagA wd n hs = rootA wd n (accA wd hs)) := ⟨rfl⟩
        clear hB hai hbx hri hg hacc hrm'
        generalize accA wd hs = A at *
        generalize hR : rootA wd n A = R at *
        have HR2 : Shut (rootA wd n A = R) := ⟨hR⟩
        clear hR
        go_wp2_with (go_at_call 33; refine (hrt _).mono ?_; rintro e w3 ⟨rfl, hc3⟩; have hm3 := may_chg hc3 hrs (by omega) (by simp))
        refine bodyPost_ret (res_Hash2 rfl _ _ rfl (rng?_setRng_same _ _ _ _ _ hm3 hsl)) rfl ⟨by rw [HRR.out]; rfl, ?_⟩
        exact (hch.nil_trans hc3).setRng (.inr (Nat.le_refl _)) _ _
      | succ k =>
        have hk1 : k < hs.length := by rw [HM.out]; omega
        have hkm : k < m + 1 := by omega
        rw [show (((k + 1 : Nat) : Int) - 1) = (k : Int) from by omega]
        have hrow := rng?_chg hB.chg (hrm' k hk1) (by omega) (by simp)
        have hlk := World.block_lt_of_cell? _ _ ((rng?_cell hrow).2 0 (by rw [(rng?_cell hrow).1]; omega))
        have hIk := HI.out hs[k] (List.getElem_mem hk1)
        have hdr := List.drop_eq_getElem_cons hk1
        have hmb := may_row (o := 0) (n := 32) hB.box (by rw [(hacc _ (fun y hy => HI.out y (List.mem_of_mem_drop hy))).1]; omega)
        have hne : hs.drop (k + 1) ≠ [] := by rw [Ne, List.drop_eq_nil_iff, HM.out]; omega
        have hai := hacc (hs.drop (k + 1)) (fun y hy => HI.out y (List.mem_of_mem_drop hy))
        have hx : foldA wd hs[k] (accA wd (hs.drop (k + 1))) = accA wd (hs.drop k) := by rw [hdr, acc_cons _ _ _ hne]
        have hno := fun (W : World) => r2foldA_calls W wd hIk hai
        have hfi := foldA_is wd hIk hai
        have hlr := rng?_row hB.box hai.1
        have hnext := fun (W : World) (hW : Chg [] wr W) => hB.set hW HI.out hx
        have hmay := fun (W : World) (hW : Chg [] wr W) => may_chg hW hmb (by omega) (by simp)
        have HNX := Lib.hid hnext
        have HMY := Lib.hid hmay
        have hs1 := hfi.1
        have hs2 := hfi.one
        have HG := Lib.hid hg
        have HNO := Lib.hid hno
        clear hnext hx hdr hB hacc hIk hg hne hai hno hmay hfi hrm'
        generalize accA wd (hs.drop (k + 1)) = A at *
        generalize hs[k] = x at *
        generalize foldA wd x A = y at *
        go_upto_region 11 with (fail)
        go_region_with (go_at_call 34; (with_reducible refine (HNO.out _).mono ?_); rintro e w3 ⟨rfl, hc3⟩; have hC3 : Chg [] wr w3 := ((Chg.refl [] wr).drew).nil_trans hc3; have hm3 := HMY.out _ hC3)
        all_goals
          go_wp2
          go_roundg k
          case measure => rw [HG.out]; omega
          case rel => exact ⟨k, by omega, rfl, by go_num, HNX.out _ hC3⟩
theorem r6bag_size (w : World) (wd : Int) (n : Nat) (v : Value) (h1 : 4611686018427387904 < n) (h2 : n < 18446744073709551616) : Calls Tryd.prog 9 #[.int .i64 wd, .int .u64 n, v] w (Res w [] (.tuple #[.agg zeroHash, .int .i64 30])) := by
  go_enter Tryd.func9, Tryd.ntmps9
  go_wp2
  refine bodyPost_ret (res_Hash2 rfl _ _ rfl (rng?_alloc_at _ _ _ _ _ rfl zeroHash_size)) rfl ⟨rfl, (Chg.refl _ _).alloc _⟩
theorem r6bag_count (w : World) (wd : Int) (n : Nat) (v : Value) (hs : List (Array Value)) (hv : HsIs w v hs) (hn : n ≤ 4611686018427387904) (hl : hs.length ≠ popc n) (hlen : hs.length ≤ 1099511627776) : Calls Tryd.prog 9 #[.int .i64 wd, .int .u64 n, v] w (Res w [] (.tuple #[.agg zeroHash, .int .i64 70])) := by
  obtain ⟨hI, a, cap, rfl, hr⟩ := hv
  have hpo := popc_le_self n
  have htl := tops_length n (by have : (2 : Nat) ^ 63 = 9223372036854775808 := by decide
                                omega)
  have htop := fun W => r3tops_calls n hn W
  have hnd : decide ((4611686018427387904 : Int) < (n : Int)) = false := decide_eq_false (by omega)
  have hne : ((hs.length : Int) != (popc n : Nat)) = true := by rw [bne_iff_ne]; omega
  have hm0 : ∀ w1, Chg [] (w.alloc (.cells zeroHash 26)) w1 → may w1 w.heap.size 0 32 = true := fun w1 hC => may_chg hC (may_alloc_at w w.heap.size 32 zeroHash 26 rfl zeroHash_size) (by omega) (by simp)
  have hc0 : ∀ w1, Chg [] (w.alloc (.cells zeroHash 26)) w1 → Chg [] w w1 := fun w1 hC => ((Chg.refl [] w).alloc _).nil_trans hC
  have HM0 := Lib.hid hm0
  have HC0 := Lib.hid hc0
  have HTL := Lib.hid htl
  clear hl hr hI htl hm0 hc0
  generalize popc n = q at *
  go_enter Tryd.func9, Tryd.ntmps9
  go_wp2_with (go_at_call 32; refine (htop _).mono ?_; rintro e w1 ⟨v1, rfl, hO, hC⟩; obtain ⟨a1, cap1, rfl⟩ := hO.form; rw [HTL.out]; have hm3 := HM0.out w1 hC)
  refine bodyPost_ret (res_Hash2 rfl _ _ rfl (rng?_setRng_same _ _ _ _ _ hm3 zeroHash_size)) rfl ⟨rfl, ?_⟩
  exact (HC0.out _ hC).setRng (.inr (Nat.le_refl _)) _ _
/-! What both answer. -/
def bagV (wd : Int) (n : Nat) (hs : List (Array Value)) : Array Value := if 4611686018427387904 < n then zeroHash else if hs.length = popc n then bagA wd n hs else zeroHash
def bagErr (n : Nat) (hs : List (Array Value)) : Int := if 4611686018427387904 < n then 30 else if hs.length = popc n then 0 else 70
theorem bagV_is (wd : Int) (n : Nat) (hs : List (Array Value)) (hI : ∀ x ∈ hs, IsHash x) : IsHash (bagV wd n hs) := by
  unfold bagV
  split
  · exact zeroHash_is
  · split
    · exact rootA_is wd n (accA_is wd hs hI)
    · exact zeroHash_is
theorem bagErr_one (n : Nat) (hs : List (Array Value)) : bagErr n hs = 0 ∨ bagErr n hs = 30 ∨ bagErr n hs = 70 := by
  unfold bagErr
  split
  · exact .inr (.inl rfl)
  · split
    · exact .inl rfl
    · exact .inr (.inr rfl)
theorem r6bagR_calls (w : World) (wd : Int) (n : Nat) (v : Value) (hs : List (Array Value)) (hv : HsIs w v hs) (hn : n < 18446744073709551616) (hlen : hs.length ≤ 1000000) :
    Calls Tryd.prog 9 #[.int .i64 wd, .int .u64 n, v] w (Res w [] (.tuple #[.agg (bagV wd n hs), .int .i64 (bagErr n hs)])) := by
  unfold bagV bagErr
  by_cases h1 : 4611686018427387904 < n
  · rw [if_pos h1, if_pos h1]
    exact r6bag_size w wd n v h1 hn
  · rw [if_neg h1, if_neg h1]
    by_cases h2 : hs.length = popc n
    · rw [if_pos h2, if_pos h2]
      exact r6bag_calls w wd n v hs hv (by omega) h2
    · rw [if_neg h2, if_neg h2]
      exact r6bag_count w wd n v hs hv (by omega) h2 (by omega)
theorem tBagR_calls (w : World) (wd : Int) (n : Nat) (v : Value) (hs : List (Array Value)) (hv : HsIs w v hs) (hn : n < 18446744073709551616) (hlen : hs.length ≤ 1000000) (hk : HIs w) :
    Calls Tryd.prog 10 #[.int .i64 wd, .int .u64 n, v] w (Res w [] (.tuple #[.agg (bagV wd n hs), .int .i64 (bagErr n hs)])) := by
  unfold bagV bagErr
  by_cases h1 : 4611686018427387904 < n
  · rw [if_pos h1, if_pos h1]
    exact bag_size w wd n v h1 hn
  · rw [if_neg h1, if_neg h1]
    by_cases h2 : hs.length = popc n
    · rw [if_pos h2, if_pos h2]
      exact bag_calls w wd n v hs hv (by omega) h2 hk
    · rw [if_neg h2, if_neg h2]
      exact bag_count w wd n v hs hv (by omega) h2 (by omega)
end Go.Proofs.YtogkfjljdmbogaaDoor

/- The tree of given leaves, plainly: its nodes, and what each is made of. -/
namespace Go.Proofs.YtogkfjljdmbogaaDoor
open Go.RowKit
set_option linter.unusedVariables false
set_option linter.unusedSimpArgs false

def NV.zero : NV := ⟨0, fun _ => none⟩
def treeGo (wd : Int) : Nat → NV → List (Array Value) → NV
  | _, v, [] => v
  | k, v, x :: l => treeGo wd (k + 1) (appV wd k v x) l
def treeV (wd : Int) (l : List (Array Value)) : NV := treeGo wd 0 NV.zero l
theorem treeGo_snoc (wd : Int) : ∀ (l : List (Array Value)) (k : Nat) (v : NV) (x : Array Value), treeGo wd k v (l ++ [x]) = appV wd (k + l.length) (treeGo wd k v l) x
  | [], k, v, x => rfl
  | y :: l, k, v, x => by
    rw [List.cons_append, treeGo, treeGo_snoc wd l, treeGo, List.length_cons, show k + 1 + l.length = k + (l.length + 1) from by omega]
theorem treeGo_app (wd : Int) : ∀ (a b : List (Array Value)) (k : Nat) (v : NV), treeGo wd k v (a ++ b) = treeGo wd (k + a.length) (treeGo wd k v a) b
  | [], b, k, v => rfl
  | y :: a, b, k, v => by
    rw [List.cons_append, treeGo, treeGo_app wd a, treeGo, List.length_cons, show k + 1 + a.length = k + (a.length + 1) from by omega]
theorem treeV_snoc (wd : Int) (l : List (Array Value)) (x : Array Value) : treeV wd (l ++ [x]) = appV wd l.length (treeV wd l) x := by
  unfold treeV
  rw [treeGo_snoc, Nat.zero_add]
theorem treeV_app (wd : Int) (a b : List (Array Value)) : treeV wd (a ++ b) = treeGo wd a.length (treeV wd a) b := by
  unfold treeV
  rw [treeGo_app, Nat.zero_add]
theorem climb_n (wd : Int) : ∀ (k h : Nat) (v : NV) (x : Array Value), (climb wd k h v x).n = v.n + k
  | 0, _, _, _ => rfl
  | k + 1, h, v, x => by
    rw [climb, climb_n wd k]
    show v.n + 1 + k = v.n + (k + 1)
    omega
theorem app_n (wd : Int) (size : Nat) (v : NV) (x : Array Value) : (appV wd size v x).n = v.n + 1 + t1 size := climb_n wd _ _ _ _
theorem NV.push_last (v : NV) (x : Array Value) : (v.push x).get v.n = x := by
  show (if v.n < v.n + 1 then ((if v.n = v.n then some x else v.node v.n)).getD zeroHash else zeroHash) = x
  rw [if_pos (by omega), if_pos rfl]
  rfl
theorem climb_law (wd : Int) : ∀ (k h : Nat) (v : NV) (x : Array Value), 1 ≤ v.n → v.get (v.n - 1) = x → ∀ j, j < k →
    (climb wd k h v x).get (v.n + j) = nodeA wd ((climb wd k h v x).get (v.n + j - 2 ^ (h + 1 + j))) ((climb wd k h v x).get (v.n + j - 1))
  | 0, _, _, _, _, _, j, hj => by omega
  | k + 1, h, v, x, hn, hx, j, hj => by
    rw [climb]
    have hp := Nat.two_pow_pos (h + 1)
    have e1 : v.n - 1 - (2 ^ (h + 1) - 1) = v.n - 2 ^ (h + 1) := by omega
    rw [e1]
    generalize hy : nodeA wd (v.get (v.n - 2 ^ (h + 1))) x = y
    have hvn : (v.push y).n = v.n + 1 := rfl
    cases j with
    | zero =>
      simp only [Nat.add_zero]
      rw [climb_get wd k (h + 1) (v.push y) y v.n (by rw [hvn]; omega), NV.push_last, climb_get wd k (h + 1) (v.push y) y _ (by rw [hvn]; omega), NV.push_get v y (by omega),
        climb_get wd k (h + 1) (v.push y) y _ (by rw [hvn]; omega), NV.push_get v y (by omega), hx, hy]
    | succ j =>
      have := climb_law wd k (h + 1) (v.push y) y (by rw [hvn]; omega) (by rw [hvn, Nat.add_sub_cancel, NV.push_last]) j (by omega)
      rw [hvn] at this
      rw [show v.n + (j + 1) = v.n + 1 + j from by omega, show h + 1 + (j + 1) = h + 1 + 1 + j from by omega]
      exact this
/-- Nodes over these leaves. -/
structure Forest (wd : Int) (ls : List (Array Value)) (v : NV) : Prop where
  n : v.n = nodesN ls.length
  full : v.full
  leaf : ∀ i (h : i < ls.length), v.get (nodesN i) = ls[i]
  node : ∀ i, i < ls.length → ∀ r, r < t1 i → v.get (nodesN i + 1 + r) = nodeA wd (v.get (nodesN i + 1 + r - 2 ^ (r + 1))) (v.get (nodesN i + r))
theorem Forest.zero (wd : Int) : Forest wd [] NV.zero :=
  ⟨by rw [List.length_nil, nodes_zero]; rfl, fun p hp => by simp [NV.zero] at hp, fun i h => by simp at h, fun i h => by simp at h⟩
theorem Forest.app {wd : Int} {ls : List (Array Value)} {v : NV} (h : Forest wd ls v) (x : Array Value) : Forest wd (ls ++ [x]) (appV wd ls.length v x) := by
  have hl : (ls ++ [x]).length = ls.length + 1 := by simp
  have hsub : ∀ i, i < ls.length → nodesN i + t1 i < v.n := by
    intro i hi
    have := nodes_succ i
    have := nodes_mono (show i + 1 ≤ ls.length from hi)
    rw [h.n]; omega
  refine ⟨by rw [app_n, hl, nodes_succ, h.n], app_full _ _ h.full x, ?_, ?_⟩
  · intro i hi
    rw [List.getElem_append]
    split
    · rename_i q
      have := hsub i q
      rw [app_get _ _ _ _ (by omega)]
      exact h.leaf i q
    · have e : i = ls.length := by omega
      subst e
      rw [← h.n]
      unfold appV
      rw [climb_get _ _ _ _ _ _ (show v.n < v.n + 1 from by omega), NV.push_last]
      simp
  · intro i hi r hr
    rw [hl] at hi
    by_cases q : i < ls.length
    · have := hsub i q
      have hp := Nat.two_pow_pos (r + 1)
      rw [app_get _ _ _ _ (by omega), app_get _ _ _ _ (by omega), app_get _ _ _ _ (by omega)]
      exact h.node i q r hr
    · have e : i = ls.length := by omega
      subst e
      have := climb_law wd (t1 ls.length) 0 (v.push x) x (show 1 ≤ v.n + 1 from by omega) (by rw [show (v.push x).n - 1 = v.n from rfl]; exact NV.push_last v x) r hr
      rw [show (v.push x).n = v.n + 1 from rfl, h.n, Nat.zero_add, show nodesN ls.length + 1 + r - 1 = nodesN ls.length + r from by omega, Nat.add_comm 1 r] at this
      exact this
theorem Forest.go {wd : Int} : ∀ (l pre : List (Array Value)) (v : NV), Forest wd pre v → Forest wd (pre ++ l) (treeGo wd pre.length v l)
  | [], pre, v, h => by rw [List.append_nil]; exact h
  | x :: l, pre, v, h => by
    have := Forest.go l (pre ++ [x]) _ (h.app x)
    rw [List.append_assoc, List.singleton_append, List.length_append, List.length_singleton] at this
    exact this
theorem forest (wd : Int) (ls : List (Array Value)) : Forest wd ls (treeV wd ls) := Forest.go ls [] NV.zero (Forest.zero wd)
/-- Each place is a leaf's or stands over one. -/
theorem place_of : ∀ (n p : Nat), p < nodesN n → ∃ i, i < n ∧ ∃ r, r ≤ t1 i ∧ p = nodesN i + r
  | 0, p, h => by rw [nodes_zero] at h; omega
  | n + 1, p, h => by
    by_cases q : p < nodesN n
    · obtain ⟨i, hi, r⟩ := place_of n p q
      exact ⟨i, by omega, r⟩
    · rw [nodes_succ] at h
      exact ⟨n, by omega, p - nodesN n, by omega, by omega⟩
theorem treeGo_get (wd : Int) : ∀ (l : List (Array Value)) (k : Nat) (v : NV) {p : Nat}, p < v.n → (treeGo wd k v l).get p = v.get p
  | [], _, _, _, _ => rfl
  | x :: l, k, v, p, hp => by
    rw [treeGo, treeGo_get wd l _ _ (by rw [app_n]; omega), app_get _ _ _ _ hp]

/-! Two views with the same nodes. -/
def NV.same (u v : NV) : Prop := u.n = v.n ∧ ∀ p, u.get p = v.get p
theorem NV.same_push {u v : NV} (h : u.same v) (x : Array Value) : (u.push x).same (v.push x) := by
  refine ⟨by show u.n + 1 = v.n + 1; rw [h.1], fun p => ?_⟩
  by_cases q : p < v.n
  · rw [NV.push_get u x (by rw [h.1]; exact q), NV.push_get v x q, h.2]
  · by_cases e : p = v.n
    · subst e
      rw [NV.push_last, ← h.1, NV.push_last]
    · show (if p < u.n + 1 then _ else zeroHash) = (if p < v.n + 1 then _ else zeroHash)
      rw [h.1, if_neg (by omega), if_neg (by omega)]
theorem climb_same (wd : Int) : ∀ (k h : Nat) (u v : NV) (x : Array Value), u.same v → (climb wd k h u x).same (climb wd k h v x)
  | 0, _, _, _, _, hs => hs
  | k + 1, h, u, v, x, hs => by
    rw [climb, climb, hs.1, hs.2]
    exact climb_same wd k (h + 1) _ _ _ (NV.same_push hs _)
theorem app_same (wd : Int) (size : Nat) {u v : NV} (h : u.same v) (x : Array Value) : (appV wd size u x).same (appV wd size v x) := climb_same wd _ _ _ _ _ (NV.same_push h x)
/-- Nodes pushed one behind the other. -/
def NV.pushes (v : NV) (l : List (Array Value)) : NV := l.foldl NV.push v
theorem NV.pushes_n (l : List (Array Value)) : ∀ v : NV, (v.pushes l).n = v.n + l.length := by
  induction l with
  | nil => intro v; rfl
  | cons x l ih =>
    intro v
    show ((v.push x).pushes l).n = _
    rw [ih]
    show v.n + 1 + l.length = _
    rw [List.length_cons]
    omega
theorem NV.pushes_low (l : List (Array Value)) : ∀ (v : NV) {p : Nat}, p < v.n → (v.pushes l).get p = v.get p := by
  induction l with
  | nil => intro v p hp; rfl
  | cons x l ih =>
    intro v p hp
    show ((v.push x).pushes l).get p = _
    rw [ih _ (show p < v.n + 1 from by omega), NV.push_get v x hp]
theorem NV.pushes_at (l : List (Array Value)) : ∀ (v : NV) (i : Nat) (h : i < l.length), (v.pushes l).get (v.n + i) = l[i] := by
  induction l with
  | nil => intro v i h; simp at h
  | cons x l ih =>
    intro v i h
    show ((v.push x).pushes l).get _ = _
    cases i with
    | zero =>
      rw [Nat.add_zero, NV.pushes_low l _ (show v.n < v.n + 1 from by omega), NV.push_last]
      rfl
    | succ i =>
      have := ih (v.push x) i (by simpa using h)
      rw [show (v.push x).n + i = v.n + (i + 1) from by show v.n + 1 + i = _; omega] at this
      rw [this]
      rfl
theorem NV.pushes_full (l : List (Array Value)) : ∀ v : NV, v.full → (v.pushes l).full := by
  induction l with
  | nil => intro v h; exact h
  | cons x l ih => intro v h; exact ih _ (NV.push_full h x)
theorem NV.pushes_snoc (v : NV) (l : List (Array Value)) (x : Array Value) : v.pushes (l ++ [x]) = (v.pushes l).push x := by
  unfold NV.pushes
  rw [List.foldl_append]
  rfl
/-- Nodes that more leaves made, pushed onto the elder tree: the same nodes. -/
theorem install_same (wd : Int) (ls more ns : List (Array Value)) (hl : ns.length = nodesN (ls.length + more.length) - nodesN ls.length) (hg : ∀ i (h : i < ns.length), ns[i] = (treeV wd (ls ++ more)).get (nodesN ls.length + i)) :
    ((treeV wd ls).pushes ns).same (treeV wd (ls ++ more)) := by
  have h1 := forest wd ls
  have h2 := forest wd (ls ++ more)
  have hm := nodes_mono (show ls.length ≤ ls.length + more.length from by omega)
  have hn1 := h1.n
  have hn2 := h2.n
  rw [List.length_append] at hn2
  have hn3 := NV.pushes_n ns (treeV wd ls)
  refine ⟨by omega, fun p => ?_⟩
  by_cases q : p < nodesN ls.length
  · rw [NV.pushes_low _ _ (by omega), treeV_app, treeGo_get _ _ _ _ (by omega)]
  · by_cases q2 : p < nodesN (ls.length + more.length)
    · have := NV.pushes_at ns (treeV wd ls) (p - nodesN ls.length) (by omega)
      rw [show (treeV wd ls).n + (p - nodesN ls.length) = p from by omega] at this
      rw [this, hg, show nodesN ls.length + (p - nodesN ls.length) = p from by omega]
    · show (if p < _ then _ else zeroHash) = (if p < _ then _ else zeroHash)
      rw [if_neg (by omega), if_neg (by omega)]
/-! The width as it counts. -/
theorem widthI_fit (w : Int) : 1 ≤ widthI w ∧ widthI w ≤ 32 := by unfold widthI; omega
theorem widthI_idem (w : Int) : widthI (widthI w) = widthI w := by unfold widthI; omega
theorem widthN_I (w : Int) : widthN (widthI w) = widthN w := by unfold widthN widthI; omega
theorem compress_width {a b : Int} (h : widthN a = widthN b) (st blk : List Nat) : compressN a st blk = compressN b st blk := by
  unfold compressN cutN
  rw [h]
theorem absorb_width {a b : Int} (h : widthN a = widthN b) (s : HS) (c : Nat) : absorb a s c = absorb b s c := by
  unfold absorb
  simp only [compress_width h]
theorem absorbs_width {a b : Int} (h : widthN a = widthN b) (l : List Nat) : ∀ s, absorbs a s l = absorbs b s l := by
  intro s
  unfold absorbs
  congr 1
  funext s c
  exact absorb_width h s c
theorem sum_width {a b : Int} (h : widthN a = widthN b) (l : List Nat) : sumN a l = sumN b l := by
  have e : startN a = startN b := by unfold startN cutN; rw [h]
  unfold sumN
  rw [absorbs_width h, absorbs_width h, e]
theorem nodeA_width (w : Int) (x y : Array Value) : nodeA (widthI w) x y = nodeA w x y := by unfold nodeA nodeN; rw [sum_width (widthN_I w)]
theorem foldA_width (w : Int) (x y : Array Value) : foldA (widthI w) x y = foldA w x y := by unfold foldA foldN; rw [sum_width (widthN_I w)]
theorem rootA_width (w : Int) (n : Nat) (x : Array Value) : rootA (widthI w) n x = rootA w n x := by unfold rootA rootN; rw [sum_width (widthN_I w)]
theorem accA_width (w : Int) : ∀ l, accA (widthI w) l = accA w l
  | [] => rfl
  | [x] => rfl
  | x :: y :: l => by rw [accA, accA, accA_width w (y :: l), foldA_width]
end Go.Proofs.YtogkfjljdmbogaaDoor

/- Trees of given leaves in memory. -/
namespace Go.Proofs.YtogkfjljdmbogaaDoor
open Go.RowKit
set_option linter.unusedVariables false
set_option linter.unusedSimpArgs false

structure TreeOf (w0 w : World) (b : Nat) (t : TS) (wd : Int) (ls : List (Array Value)) : Prop where
  tr : TrIs w b t
  wdE : t.wd = widthI wd
  size : t.size = ls.length
  view : t.s.view.same (treeV (widthI wd) ls)
  fl : t.s.view.full
  al : t.s.alive = nodesN ls.length
  low : ∀ k ∈ t.foot b, w0.heap.size ≤ k
  chg : Chg [] w0 w
theorem TreeOf.n {w0 w : World} {b : Nat} {t : TS} {wd : Int} {ls : List (Array Value)} (h : TreeOf w0 w b t wd ls) : t.s.n = nodesN ls.length := h.view.1.trans (forest (widthI wd) ls).n
theorem TreeOf.full {w0 w : World} {b : Nat} {t : TS} {wd : Int} {ls : List (Array Value)} (h : TreeOf w0 w b t wd ls) : TFull t := ⟨by rw [h.n, h.size], h.fl, by rw [h.al, h.n]⟩
theorem TreeOf.chgF {w0 w w' : World} {b : Nat} {t : TS} {wd : Int} {ls : List (Array Value)} {F : List Nat} (h : TreeOf w0 w b t wd ls) (hc : Chg F w w') (hF : ∀ k ∈ t.foot b, k ∉ F) (h0 : Chg [] w0 w') : TreeOf w0 w' b t wd ls :=
  ⟨h.tr.chg hc hF, h.wdE, h.size, h.view, h.fl, h.al, h.low, h0⟩
theorem TreeOf.chg0 {w0 w w' : World} {b : Nat} {t : TS} {wd : Int} {ls : List (Array Value)} (h : TreeOf w0 w b t wd ls) (hc : Chg [] w w') : TreeOf w0 w' b t wd ls := h.chgF hc (by simp) (h.chg.nil_trans hc)
theorem TreeOf.getH {w0 w : World} {b : Nat} {t : TS} {wd : Int} {ls : List (Array Value)} (h : TreeOf w0 w b t wd ls) (p : Nat) : t.s.getH p = (treeV (widthI wd) ls).get p := by rw [← view_get, h.view.2]
theorem SS.node_nil {s : SS} (h : s.cks = []) (p : Nat) : s.node p = none := by simp [SS.node, SS.look, h]
theorem TreeOf.zero {w0 w1 : World} {b : Nat} {t : TS} {wd : Int} (h1 : TrIs w1 b t) (h2 : Chg [] w0 w1) (h3 : ∀ k ∈ t.foot b, w0.heap.size ≤ k) (h4 : t.wd = widthI wd) (h5 : t.size = 0) (h6 : t.s.n = 0) (h7 : t.s.cks = []) : TreeOf w0 w1 b t wd [] := by
  refine ⟨h1, h4, h5, ⟨h6, fun p => ?_⟩, (TFull.zero h5 h6 h7).full, ?_, h3, h2⟩
  · show (if p < t.s.n then _ else zeroHash) = (if p < 0 then _ else zeroHash)
    rw [if_neg (by omega), if_neg (by omega)]
  · rw [List.length_nil, nodes_zero]
    simp [SS.alive, h7]
/-- One leaf appended. -/
def TreeApp (w0 w : World) (b : Nat) (t : TS) (wd : Int) (ls : List (Array Value)) (x : Array Value) (e : Ending) (w2 : World) : Prop :=
  e = .returned (.int .u64 ls.length) ∧ ∃ t', TreeOf w0 w2 b t' wd (ls ++ [x]) ∧ Chg (t.foot b) w w2 ∧ (∀ k ∈ t'.foot b, k ∈ t.foot b ∨ w.heap.size ≤ k)
theorem TreeOf.app {w0 w w2 : World} {b : Nat} {t : TS} {wd : Int} {ls : List (Array Value)} {x : Array Value} {e : Ending} (h : TreeOf w0 w b t wd ls) (ha : AppP w b t x e w2) : TreeApp w0 w b t wd ls x e w2 := by
  obtain ⟨he, t', h1, h2, h3, h4, h5, h6, h7, h8, h9, h10, h11⟩ := ha
  have hs := h.chg.size
  refine ⟨by rw [he, h.size], t', ⟨h1, h3.trans h.wdE, by rw [h4, h.size, List.length_append]; rfl, ?_, ?_, ?_, ?_, h.chg.trans h10 (fun k hk => .inr (h.low k hk))⟩, h10, h11⟩
  · rw [h5, treeV_snoc, h.wdE, h.size]
    exact app_same _ _ h.view x
  · rw [h5]
    exact app_full _ _ h.fl x
  · rw [h7, h.al, List.length_append, List.length_singleton, nodes_succ, h.size]
  · intro k hk
    rcases h11 k hk with q | q
    · exact h.low k q
    · omega
theorem TreeOf.call {w0 w : World} {b : Nat} {t : TS} {wd : Int} {ls : List (Array Value)} (h : TreeOf w0 w b t wd ls) {x : Array Value} (hx : IsHash x) (hk : HIs w) (hl : ls.length ≤ 1000000) :
    Calls Tryd.prog 20 #[.pointer (some ⟨b, 0, none⟩), .agg x] w (TreeApp w0 w b t wd ls x) := by
  have hn := nodes_le ls.length
  have hz := h.size
  have ha := h.al
  exact (append_calls w b t x h.tr hx hk (by omega) (by rw [hz]; exact h.n) (by omega)).mono fun e w2 hp => h.app hp
/-- The root over these leaves. -/
def rootL (wd : Int) (ls : List (Array Value)) : Array Value := bagR (widthI wd) ls.length ((peaksN ls.length).map (treeV (widthI wd) ls).get)
theorem TreeOf.root {w0 w : World} {b : Nat} {t : TS} {wd : Int} {ls : List (Array Value)} (h : TreeOf w0 w b t wd ls) : t.root = rootL wd ls := by
  rw [h.full.root]
  unfold rootAt rootL
  rw [h.wdE, h.size]
  congr 1
  apply List.map_congr_left
  intro p _
  exact h.getH p
theorem treeV_is (wd : Int) (ls : List (Array Value)) {w0 w : World} {b : Nat} {t : TS} (h : TreeOf w0 w b t wd ls) (p : Nat) : IsHash ((treeV (widthI wd) ls).get p) := by
  rw [← h.getH]
  exact IsHash.getH h.tr.st p
theorem TreeOf.rootIs {w0 w : World} {b : Nat} {t : TS} {wd : Int} {ls : List (Array Value)} (h : TreeOf w0 w b t wd ls) : IsHash (rootL wd ls) := by
  rw [← h.root, h.full.root]
  exact rootAt_is h.tr _
theorem TreeOf.rootCall {w0 w : World} {b : Nat} {t : TS} {wd : Int} {ls : List (Array Value)} (h : TreeOf w0 w b t wd ls) (hk : HIs w) (hl : ls.length ≤ 1000000) :
    Calls Tryd.prog 18 #[.pointer (some ⟨b, 0, none⟩)] w (Res w [] (.agg (rootL wd ls))) := by
  have := tRoot_calls w b t h.tr (by rw [h.size]; omega) hk
  rwa [h.root] at this
theorem TreeOf.nodeCall {w0 w : World} {b : Nat} {t : TS} {wd : Int} {ls : List (Array Value)} (h : TreeOf w0 w b t wd ls) (p : Nat) (hp : p < nodesN ls.length) (hl : ls.length ≤ 1000000) :
    Calls Tryd.prog 23 #[.pointer (some ⟨b, 0, none⟩), .int .u64 p] w (Res w [] (.tuple #[.agg ((treeV (widthI wd) ls).get p), .int .i64 0])) := by
  have hn := nodes_le ls.length
  have := tNode_calls w b p t h.tr (by omega)
  rwa [h.getH, h.full.getE (by rw [h.n]; exact hp)] at this
theorem TreeOf.nodeFar {w0 w : World} {b : Nat} {t : TS} {wd : Int} {ls : List (Array Value)} (h : TreeOf w0 w b t wd ls) (p : Nat) (hp : nodesN ls.length ≤ p) (hl : p < 18446744073709551616) :
    Calls Tryd.prog 23 #[.pointer (some ⟨b, 0, none⟩), .int .u64 p] w (Res w [] (.tuple #[.agg zeroHash, .int .i64 31])) := by
  have := tNode_calls w b p t h.tr hl
  have hn := h.n
  have e1 : t.s.getH p = zeroHash := by unfold SS.getH; rw [if_neg (by omega)]
  have e2 : t.s.getE p = 31 := by unfold SS.getE; rw [if_neg (by omega)]
  rwa [e1, e2] at this
/-- The peaks over these leaves. -/
def peaksV (wd : Int) (ls : List (Array Value)) : List (Array Value) := (peaksN ls.length).map (treeV (widthI wd) ls).get
theorem TreeOf.peaksCall {w0 w : World} {b : Nat} {t : TS} {wd : Int} {ls : List (Array Value)} (h : TreeOf w0 w b t wd ls) (hl : ls.length ≤ 1000000) :
    Calls Tryd.prog 19 #[.pointer (some ⟨b, 0, none⟩)] w fun e w' => ∃ v, e = .returned v ∧ HOwn w' w.heap.size v (peaksV wd ls) ∧ Chg [] w w' := by
  have hpk := tPeaks_calls w b t h.tr (by rw [h.size]; omega)
  have e : PeaksOf t.s (peaksN t.size) = peaksV wd ls := by
    unfold PeaksOf peaksV
    rw [if_pos (h.full.peaksE (Nat.le_refl _)), h.size]
    apply List.map_congr_left
    intro p _
    exact h.getH p
  rwa [e] at hpk
end Go.Proofs.YtogkfjljdmbogaaDoor

/- The trees' statements: 'of', 'same' walked. -/
namespace Go.Proofs.YtogkfjljdmbogaaDoor
open Go.RowKit
set_option linter.unusedVariables false
set_option linter.unusedSimpArgs false

theorem HsIs.chg0 {w w' : World} {v : Value} {hs : List (Array Value)} (h : HsIs w v hs) (hc : Chg [] w w') : HsIs w' v hs := h.chg hc (by simp)
set_option maxRecDepth 100000 in
theorem same_calls (w : World) (va vb : Value) (l : List (Array Value)) (ha : HsIs w va l) (hb : HsIs w vb l) (hlen : l.length ≤ 1000000) : Calls Tryd.prog 11 #[va, vb] w (Res w [] (.bool true)) := by
  obtain ⟨hI, a, cap, rfl, hr⟩ := ha
  obtain ⟨_, b, cap2, rfl, hr2⟩ := hb
  go_enter Tryd.func11, Tryd.ntmps11
  go_wp2
  obtain ⟨wo, rfl⟩ : ∃ wo : World, wo = w := ⟨_, rfl⟩
  go_loopg [5] l.length (fun g ii wx => ∃ n : Nat, n ≤ l.length ∧ g = l.length - n ∧ ii = .int .i64 n ∧ Chg [] wo wx)
  case atStart => exact ⟨0, by omega, by omega, rfl, Chg.refl _ _⟩
  case round =>
    obtain ⟨n, hnl, hg, rfl, hC⟩ := hrel
    by_cases hlt : n < l.length
    · have hlt' : n < l.length := hlt
      rcases hr with hr | ⟨pb, po, rfl, hpb, hr⟩
      · subst hr; simp at hlt'
      rcases hr2 with hr2 | ⟨qb, qo, rfl, hqb, hr2⟩
      · subst hr2; simp at hlt'
      have r1 := rng?_chg hC (hr n hlt') (by omega) (by simp)
      have r2 := rng?_chg hC (hr2 n hlt') (by omega) (by simp)
      have hI1 := hI _ (List.getElem_mem hlt')
      have l1 := World.block_lt_of_cell? _ _ ((rng?_cell r1).2 0 (by rw [(rng?_cell r1).1]; omega))
      have l2 := World.block_lt_of_cell? _ _ ((rng?_cell r2).2 0 (by rw [(rng?_cell r2).1]; omega))
      have heq : eqH l[n] l[n] = true := eqH_self
      have n0 : (0 : Int) ≤ (n : Int) := by omega
      have n1 : (n : Int) < (l.length : Int) := by omega
      have hs1 := hI1.1
      have hs2 := hI1.one
      have HG := Lib.hid hg
      clear hg hI hr hr2
      generalize l[n] = x at *
      go_upto_region 6 with (fail)
      go_quiet (fail)
      go_wp2
      go_roundg (l.length - (n + 1))
      case measure => rw [HG.out]; omega
      case rel => exact ⟨n + 1, by omega, rfl, by go_num, hC.drewN _⟩
    · obtain rfl : n = l.length := by omega
      clear hg hr hr2
      go_wp2
      go_ret
      exact ⟨rfl, hC⟩
def OfP (w : World) (wd : Int) (ls : List (Array Value)) (e : Ending) (w' : World) : Prop := ∃ b t, e = .returned (.tuple #[.pointer (some ⟨b, 0, none⟩), .bool true]) ∧ TreeOf w w' b t wd ls
set_option maxRecDepth 100000 in
theorem of_calls (w : World) (wd : Int) (hwd : -9223372036854775808 ≤ wd ∧ wd < 9223372036854775808) (lv : Value) (ls : List (Array Value)) (hv : HsIs w lv ls) (hlen : ls.length ≤ 100000) (hk : HIs w) :
    Calls Tryd.prog 17 #[.int .i64 wd, lv] w (OfP w wd ls) := by
  obtain ⟨hI, a, cap, rfl, hr⟩ := hv
  have hnew := tnew_ok w wd hwd 3 (by omega) hk
  rw [show ((3 : Nat) : Int) = 3 from rfl] at hnew
  obtain ⟨wo, rfl⟩ : ∃ wo : World, wo = w := ⟨_, rfl⟩
  go_enter Tryd.func17, Tryd.ntmps17
  go_wp2_with (go_at_call 14; refine hnew.mono ?_; rintro e w1 ⟨b, t, rfl, h1, h2, h3, h4, h5, h6, h7, h8, h9⟩)
  have hT0 : TreeOf wo w1 b t wd [] := TreeOf.zero h1 h2 h3 h4 h5 h6 h7
  clear hnew h1 h2 h3 h4 h5 h6 h7 h8 h9
  go_loopg [8] ls.length (fun g ii wx => ∃ (k : Nat) (t : TS), k ≤ ls.length ∧ g = ls.length - k ∧ ii = .int .i64 k ∧ TreeOf wo wx b t wd (ls.take k))
  case atStart => exact ⟨0, t, by omega, by omega, rfl, by rw [List.take_zero]; exact hT0⟩
  case round =>
    clear hT0
    obtain ⟨k, t, hkl, hg, rfl, hT⟩ := hrel
    by_cases hlt : k < ls.length
    · have hlt' : k < ls.length := hlt
      rcases hr with hr | ⟨pb, po, rfl, hpb, hr⟩
      · subst hr; simp at hlt'
      have hrow := rng?_chg hT.chg (hr k hlt') (by omega) (by simp)
      have hlk := World.block_lt_of_cell? _ _ ((rng?_cell hrow).2 0 (by rw [(rng?_cell hrow).1]; omega))
      have hIk := hI ls[k] (List.getElem_mem hlt')
      have htl : (ls.take k).length = k := by rw [List.length_take]; omega
      have htk : ls.take k ++ [ls[k]] = ls.take (k + 1) := (List.take_succ_eq_append_getElem hlt').symm
      have happ := hT.call hIk (hk.chg0 hT.chg) (by omega)
      have hnx : ∀ e w2, TreeApp wo wr b t wd (ls.take k) ls[k] e w2 → e = .returned (.int .u64 k) ∧ ∃ t', TreeOf wo w2 b t' wd (ls.take (k + 1)) := by
        rintro e w2 ⟨he, t', h1, _, _⟩
        exact ⟨by rw [he, htl], t', by rw [← htk]; exact h1⟩
      have HAP := Lib.hid happ
      have HNX := Lib.hid hnx
      have HG := Lib.hid hg
      have hk300 : k < 100000 := by omega
      have hI1 := hIk.1
      have hI2 := hIk.one
      clear happ hnx htk htl hg hr hI hT
      generalize ls[k] = x at *
      go_wp2_with (go_at_call 20; refine HAP.out.mono ?_; intro e w4 hp; obtain ⟨he, t', h1⟩ := HNX.out e w4 hp; subst he)
      go_roundg (ls.length - (k + 1))
      case measure => rw [HG.out]; omega
      case rel => exact ⟨k + 1, t', by omega, rfl, by go_num, h1⟩
    · obtain rfl : k = ls.length := by omega
      rw [List.take_length] at hT
      clear hg hr
      go_wp2
      go_ret2
      exact ⟨b, t, rfl, hT⟩
end Go.Proofs.YtogkfjljdmbogaaDoor

/- Rows of hashes: lists appended to a row of the call's own; 'row' of the trees' statements walked. -/
namespace Go.Proofs.YtogkfjljdmbogaaDoor
open Go.RowKit
set_option linter.unusedVariables false
set_option linter.unusedSimpArgs false

@[go_sem] theorem bs_Hash0 (w : World) : (bsX 23 0 #[]).run Tryd.prog w = .ok (.slice (some ⟨w.heap.size, 0, none⟩) 0 0) (w.alloc (.cells #[] 26)) := by
  obtain ⟨i, hi, hz, hsz, _⟩ := infoOf i_Hash
  have hso : ∀ w, (sizeOf 26).run Tryd.prog w = .ok 32 w := by intro w; simp [sizeOf, typeInfo, hi, hsz]
  unfold bsX Instr.buildSlice
  simp only [Sem.run_bind, run_underlying u_hashes, Result.andThen_ok, hso, Sem.run_ite, Nat.zero_mul, Sem.run_pure]
  simp only [show ¬ (0 > 2 ^ 24) from by decide, if_false, if_true, Result.andThen_ok]
  have e : (Array.map (fun x => (#[] : Array Value)[x % (#[] : Array Value).size]!) (Array.range 0)) = #[] := by simp
  rw [e]
  rfl
theorem HOwn.empty (w : World) (B : Nat) (hB : B ≤ w.heap.size) : HOwn (w.alloc (.cells #[] 26)) B (.slice (some ⟨w.heap.size, 0, none⟩) 0 0) [] :=
  ⟨own_new w B 26 32 0 #[] hB rfl (by decide), by simp⟩
theorem HsIs.rd {w : World} {a : Option Addr} {m cap : Nat} {l : List (Array Value)} (h : HsIs w (.slice a m cap) l) : m = l.length ∧ Rd w 32 a m (l.flatMap (·.toList)) := by
  obtain ⟨hI, a', cap', hv, hr⟩ := h
  injection hv with h1 h2 h3
  subst h1 h2
  refine ⟨rfl, flat_length hI, fun hm => ?_⟩
  rcases hr with hr | ⟨b, o, ha, hb, hr⟩
  · subst hr; simp at hm
  · refine ⟨b, o, ha, fun j u hu => ?_⟩
    have hjl : j < l.length * 32 := by
      have := (List.getElem?_eq_some_iff.1 hu).1
      rwa [flat_length hI] at this
    have hd : j / 32 < l.length := by omega
    have e := flat_at hI (j / 32) hd (j % 32) (by omega)
    rw [show j / 32 * 32 + j % 32 = j from by omega, hu] at e
    have hx := (hI _ (List.getElem_mem hd)).1
    have hc := (rng?_cell (hr (j / 32) hd)).2 (j % 32) (by rw [hx]; omega)
    rw [show o + j / 32 * 32 + j % 32 = o + j from by omega] at hc
    rw [hc]
    rw [e]
    rw [Array.getElem?_eq_getElem (by rw [hx]; omega)]
theorem HOwn.append {w : World} {B : Nat} {v : Value} {hs l : List (Array Value)} {a : Option Addr} {m cap : Nat} (h : HOwn w B v hs) (hl : HsIs w (.slice a m cap) l) (hlen : hs.length + l.length ≤ 4294967296) (hB : B ≤ w.heap.size) (ty : TypeId) :
    ∃ v' w', (Builtin.append_ #[23, 23] ty #[v, .slice a m cap]).run Tryd.prog w = .ok v' w' ∧ HOwn w' B v' (hs ++ l) ∧ Chg (ob v) w w' ∧ (∀ k ∈ ob v', k ∈ ob v ∨ w.heap.size ≤ k) := by
  obtain ⟨i, hi, hz, hsz, hby⟩ := infoOf i_Hash
  obtain ⟨rfl, hrd⟩ := hl.rd
  obtain ⟨v', w', hr, h2, h3, h4⟩ := run_append_any (P := Tryd.prog) w B 23 ty 26 i _ 32 32 u_hashes hi hz hsz hby zeroHash_size (by decide) v hs.length _ h.1 a l.length cap _ hrd
    (fun u hu => by
      obtain ⟨x, hx, hux⟩ := List.mem_flatMap.1 hu
      obtain ⟨n, rfl, _⟩ := (hl.1 x hx).2 u hux
      rfl) (by unfold maxLen; omega) (by omega) hB
  refine ⟨v', w', hr, ⟨?_, fun y hy => ?_⟩, h3, h4⟩
  · rw [List.length_append, List.flatMap_append]
    exact h2
  · rcases List.mem_append.1 hy with q | q
    · exact h.2 y q
    · exact hl.1 y q
/-- A row with one hash more, seen without it. -/
theorem HOwn.form {w : World} {B : Nat} {v : Value} {l : List (Array Value)} {x : Array Value} (h : HOwn w B v (l ++ [x])) :
    ∃ g cap, v = .slice (some ⟨g, 0, none⟩) (l.length + 1) cap ∧ l.length + 1 ≤ cap ∧ cap ≤ maxLen ∧ B ≤ g ∧ HOwn w B (.slice (some ⟨g, 0, none⟩) l.length cap) l := by
  have hl := flat_length h.2
  rcases h.1.2 with ⟨rfl, h0⟩ | ⟨g, cap, cur, rfl, hb, hh, hnc, hm, hcs, ht⟩
  · simp at h0
  · rw [List.length_append, List.length_singleton] at hnc ht ⊢
    refine ⟨g, cap, rfl, hnc, hm, hb, ⟨?_, .inr ⟨g, cap, cur, rfl, hb, hh, by omega, hm, hcs, ?_⟩⟩, fun y hy => h.2 y (by simp [hy])⟩
    · exact flat_length (fun y hy => h.2 y (by simp [hy]))
    · have e := congrArg (List.take (l.length * 32)) ht
      rw [List.take_take, Nat.min_eq_left (by omega), List.flatMap_append] at e
      rw [e, List.take_left' (flat_length (fun y hy => h.2 y (by simp [hy])))]
def RowP (w : World) (l : List (Array Value)) (e : Ending) (w' : World) : Prop :=
  ∃ g cap, e = .returned (.slice (some ⟨g, 0, none⟩) l.length cap) ∧ l.length + 1 ≤ cap ∧ w.heap.size ≤ g ∧ HOwn w' w.heap.size (.slice (some ⟨g, 0, none⟩) (l.length + 1) cap) (l ++ [hash1 171]) ∧ HOwn w' w.heap.size (.slice (some ⟨g, 0, none⟩) l.length cap) l ∧ Chg [] w w'
set_option maxRecDepth 100000 in
theorem row_calls (w : World) (lv : Value) (l : List (Array Value)) (hv : HsIs w lv l) (hlen : l.length ≤ 1000000) : Calls Tryd.prog 8 #[lv] w (RowP w l) := by
  obtain ⟨a, cap, rfl⟩ : ∃ a cap, lv = .slice a l.length cap := by obtain ⟨_, a, cap, h, _⟩ := hv; exact ⟨a, cap, h⟩
  have h0 := HOwn.empty w w.heap.size (Nat.le_refl _)
  have c0 : Chg [] w (w.alloc (.cells #[] 26)) := (Chg.refl _ _).alloc _
  obtain ⟨v1, w1, hr1, h1, c1, b1⟩ := h0.append (hv.chg0 c0) (by simp; omega) (by simp) 23
  rw [List.nil_append] at h1
  have c01 : Chg [] w w1 := c0.trans c1 (fun k hk => .inr (by rw [ob_some] at hk; simp at hk; omega))
  have h71 : IsHash (hash1 171) := hash1_is (by omega) (by omega)
  obtain ⟨v2, w2, hr2, h2, c2, b2⟩ := h1.push (hash1 171) h71 (by omega) c01.size 23
  have hol := own_lt h1.1
  have c02 : Chg [] w w2 := c01.trans c2 (fun k hk => .inr (hol k hk).1)
  obtain ⟨g, cap2, rfl, hcap, hmx, hg, h3⟩ := h2.form
  have hfin : RowP w l (.returned (.slice (some ⟨g, 0, none⟩) l.length cap2)) w2 := ⟨g, cap2, rfl, hcap, hg, h2, h3, c02⟩
  have HF := Lib.hid hfin
  have s71 := h71.1
  unfold maxLen at hmx
  clear h0 c0 h1 c1 b1 c01 h2 c2 b2 hol c02 h3 hfin hv hg h71
  go_enter Tryd.func8, Tryd.ntmps8
  go_wp2_with (first
    | (at_builtin; refine Lib.wpList_append_run _ rfl _ _ _ _ rfl _ _ rfl rfl _ _ hr1 ?_)
    | (at_builtin; refine Lib.wpList_append_run _ rfl _ _ _ _ rfl _ _ rfl rfl _ _ hr2 ?_))
  go_ret
  exact HF.out
end Go.Proofs.YtogkfjljdmbogaaDoor

/- MmrBags walked. -/
namespace Go.Proofs.YtogkfjljdmbogaaDoor
open Go.RowKit
set_option linter.unusedVariables false
set_option linter.unusedSimpArgs false

set_option maxRecDepth 100000 in
theorem marked_calls (w : World) (g n cap : Nat) (hn : n ≤ 1000000) (hcap : n + 1 ≤ cap) (hmx : cap ≤ maxLen) (hr : rng? w g (n * 32) 32 = some (hash1 171)) : Calls Tryd.prog 12 #[.slice (some ⟨g, 0, none⟩) n cap] w (Res w [] (.bool true)) := by
  have h71 : IsHash (hash1 171) := hash1_is (by omega) (by omega)
  have s1 := h71.1
  have s2 := h71.one
  have qX : eqH (hash1 171) (hash1 171) = true := eqH_self
  have hlk := World.block_lt_of_cell? _ _ ((rng?_cell hr).2 0 (by rw [(rng?_cell hr).1]; omega))
  unfold maxLen at hmx
  go_enter Tryd.func12, Tryd.ntmps12
  go_wp2
  go_ret
  exact ⟨rfl, Chg.refl _ _⟩
theorem flat_set {hs : List (Array Value)} (h : ∀ x ∈ hs, IsHash x) (k : Nat) (hk : k < hs.length) (m : Int) (h0 : 0 ≤ m) (h1 : m < 256) :
    (hs.flatMap (·.toList)).set (k * 32) (.int .u8 m) = (hs.set k ((hs[k]).setIfInBounds 0 (.int .u8 m))).flatMap (·.toList) := by
  have hy : IsHash ((hs[k]).setIfInBounds 0 (.int .u8 m)) := by
    refine ⟨by rw [Array.size_setIfInBounds]; exact (h _ (List.getElem_mem hk)).1, fun u hu => ?_⟩
    rw [Array.toList_setIfInBounds] at hu
    rcases List.mem_or_eq_of_mem_set hu with q | rfl
    · exact (h _ (List.getElem_mem hk)).2 u q
    · exact ⟨m, rfl, h0, h1⟩
  have h' : ∀ x ∈ hs.set k ((hs[k]).setIfInBounds 0 (.int .u8 m)), IsHash x := by
    intro x hx
    rcases List.mem_or_eq_of_mem_set hx with q | rfl
    · exact h x q
    · exact hy
  have l1 := flat_length h
  have l2 := flat_length h'
  rw [List.length_set] at l2
  have f1 := flat_at h
  have f2 := flat_at h'
  apply List.ext_getElem?
  intro i
  by_cases hi : i < hs.length * 32
  · have e : i / 32 * 32 + i % 32 = i := by omega
    have g1 := f1 (i / 32) (by omega) (i % 32) (by omega)
    have g2 := f2 (i / 32) (by rw [List.length_set]; omega) (i % 32) (by omega)
    rw [e] at g1 g2
    rw [g2, List.getElem?_set, l1]
    by_cases hik : k * 32 = i
    · rw [if_pos hik, if_pos (by omega)]
      subst hik
      have q1 : k * 32 / 32 = k := by omega
      have q2 : k * 32 % 32 = 0 := by omega
      simp only [q1, q2, List.getElem_set_self]
      rw [Array.getElem?_setIfInBounds_self_of_lt (by rw [(h _ (List.getElem_mem hk)).1]; omega)]
    · rw [if_neg hik, g1]
      by_cases hk2 : i / 32 = k
      · have hz : i % 32 ≠ 0 := by omega
        subst hk2
        simp only [List.getElem_set_self]
        rw [Array.getElem?_setIfInBounds_ne (by omega)]
      · rw [List.getElem_set_ne (by omega)]
  · rw [List.getElem?_eq_none (by rw [List.length_set]; omega), List.getElem?_eq_none (by omega)]
theorem HOwn.up {w : World} {B g cap n : Nat} {hs : List (Array Value)} (h : HOwn w B (.slice (some ⟨g, 0, none⟩) n cap) hs) (k : Nat) (hk : k < hs.length) (m : Int) (h0 : 0 ≤ m) (h1 : m < 256) :
    HOwn (w.setCell ⟨g, k * 32, none⟩ (.int .u8 m)) B (.slice (some ⟨g, 0, none⟩) n cap) (hs.set k ((hs[k]).setIfInBounds 0 (.int .u8 m))) := by
  have hl := flat_length h.2
  have hfs := flat_set h.2 k hk m h0 h1
  rcases h.1.2 with ⟨e, _⟩ | ⟨g', cap', cur, e, hb, hh, hnc, hm, hcs, ht⟩
  · injection e with e1 e2 e3
    cases e1
  · injection e with e1 e2 e3
    injection e1 with e1
    injection e1 with e1 _ _
    subst e1 e3
    refine ⟨⟨?_, .inr ⟨g, cap, cur.setIfInBounds (k * 32) (.int .u8 m), ?_, hb, blk_set hh _ _, ?_, hm, ?_, ?_⟩⟩, ?_⟩
    · rw [← hfs, List.length_set, List.length_set]; exact hl
    · rw [List.length_set, e2]
    · rw [List.length_set]; exact hnc
    · rw [Array.size_setIfInBounds]; exact hcs
    · rw [List.length_set, ← hfs, Array.toList_setIfInBounds, List.take_set, ht]
    · intro x hx
      rcases List.mem_or_eq_of_mem_set hx with q | rfl
      · exact h.2 x q
      · refine ⟨by rw [Array.size_setIfInBounds]; exact (h.2 _ (List.getElem_mem hk)).1, fun u hu => ?_⟩
        rw [Array.toList_setIfInBounds] at hu
        rcases List.mem_or_eq_of_mem_set hu with q | rfl
        · exact (h.2 _ (List.getElem_mem hk)).2 u q
        · exact ⟨m, rfl, h0, h1⟩
theorem HOwn.byte {w : World} {B g cap n : Nat} {hs : List (Array Value)} (h : HOwn w B (.slice (some ⟨g, 0, none⟩) n cap) hs) (k : Nat) (hk : k < hs.length) :
    ∃ m : Int, 0 ≤ m ∧ m < 256 ∧ w.cell? ⟨g, k * 32, none⟩ = some (.int .u8 m) := by
  have hH := h.hs
  obtain ⟨hI, a, cap', hv, hr⟩ := hH
  injection hv with e1 e2 e3
  subst e1
  rcases hr with hr | ⟨pb, po, ha, hpb, hr⟩
  · subst hr; simp at hk
  injection ha with ha
  injection ha with e1 e2 _
  subst e1 e2
  have hx := hI _ (List.getElem_mem hk)
  have hc := (rng?_cell (hr k hk)).2 0 (by rw [hx.1]; omega)
  obtain ⟨m, hm, h0, h1⟩ := hx.2 ((hs[k])[0]'(by rw [hx.1]; omega)) (by simp)
  refine ⟨m, h0, h1, ?_⟩
  rw [show 0 + k * 32 + 0 = k * 32 from by omega] at hc
  rw [hc, ← hm]
theorem HOwn.fr {w : World} {B g cap n : Nat} {hs : List (Array Value)} (h : HOwn w B (.slice (some ⟨g, 0, none⟩) n cap) hs) (k : Nat) : w.frozen? ⟨g, k, none⟩ = false := by
  rcases h.1.2 with ⟨e, _⟩ | ⟨g', cap', cur, e, hb, hh, hnc, hm, hcs, ht⟩
  · cases e
  · injection e with e1 e2 e3
    injection e1 with e1
    injection e1 with e1 _ _
    subst e1
    exact blk_frozen hh k
structure BgI (w0 wx : World) (g n cap L1 L2 : Nat) (X : Array Value) : Prop where
  own : ∃ hs : List (Array Value), hs.length = n ∧ HOwn wx w0.heap.size (.slice (some ⟨g, 0, none⟩) n cap) hs
  b1 : wx.heap[L1]? = some (.cells X 26 (0, 0))
  b2 : wx.heap[L2]? = some (.cells X 26 (0, 0))
  chg : Chg [] w0 wx
theorem BgI.drewN {w0 wx : World} {g n cap L1 L2 : Nat} {X : Array Value} (h : BgI w0 wx g n cap L1 L2 X) (k : Nat) : BgI w0 (wx.drewN k) g n cap L1 L2 X := by
  obtain ⟨hs, h1, h2⟩ := h.own
  exact ⟨⟨hs, h1, h2.chg ((Chg.refl [] wx).drewN k) (by simp)⟩, h.b1, h.b2, h.chg.drewN k⟩
theorem BgI.up {w0 wx : World} {g n cap L1 L2 : Nat} {X : Array Value} (h : BgI w0 wx g n cap L1 L2 X) (k : Nat) (hk : k < n) (m : Int) (h0 : 0 ≤ m) (h1 : m < 256) (hg : w0.heap.size ≤ g) (e1 : L1 ≠ g) (e2 : L2 ≠ g) : BgI w0 (wx.setCell ⟨g, k * 32, none⟩ (.int .u8 m)) g n cap L1 L2 X := by
  obtain ⟨hs, hl, hO⟩ := h.own
  exact ⟨⟨_, by rw [List.length_set]; exact hl, hO.up k (by omega) m h0 h1⟩, blk_far h.b1 e1 _, blk_far h.b2 e2 _, h.chg.setCell (.inr hg) _⟩
set_option maxRecDepth 100000 in
set_option maxHeartbeats 8000000 in
theorem bags_walk (w : World) (wd : Int) (n : Nat) (hn : n < 18446744073709551616) (lv : Value) (l : List (Array Value)) (hv : HsIs w lv l) (hlen : l.length ≤ 200) (hk : HIs w) :
    Calls Tryd.prog 3 #[.int .i64 wd, .int .u64 n, lv] w (Res w [] (.bool true)) := by
  have hrow := row_calls w lv l hv (by omega)
  have hX := bagV_is wd n l hv.1
  have hvv := hv
  obtain ⟨hI, a, capl, rfl, hrl⟩ := hv
  clear hrl
  have hgt : decide ((200 : Int) < (l.length : Int)) = false := decide_eq_false (by omega)
  obtain ⟨w0, rfl⟩ : ∃ w0 : World, w0 = w := ⟨_, rfl⟩
  go_enter Tryd.func3, Tryd.ntmps3
  go_wp2_with fail
  go_at_call 8
  refine hrow.mono ?_
  rintro e w1 ⟨g, cap, rfl, hcap, hg, h2, h3, hC1⟩
  have hr6 := r6bagR_calls w1 wd n _ l (hvv.chg0 hC1) hn (by omega)
  have htb := fun W (hW : Chg [] w1 W) => tBagR_calls W wd n _ l (h3.chg hW (by simp)).hs hn (by omega) (hk.chg0 (hC1.nil_trans hW))
  have hsame := fun W (hW : Chg [] w1 W) => same_calls W _ _ l (h3.chg hW (by simp)).hs (hvv.chg0 (hC1.nil_trans hW)) (by omega)
  have hgl : g < w1.heap.size := (own_lt h3.1 g (by rw [ob_some]; simp)).2
  have hmx : cap ≤ maxLen := by
    rcases h3.1.2 with ⟨e, _⟩ | ⟨g', cap', cur, e, hb, hh, hnc, hm, hcs, ht⟩
    · cases e
    · injection e with e1 e2 e3
      omega
  have hmk : rng? w1 g (l.length * 32) 32 = some (hash1 171) := by
    obtain ⟨_, a', cap', hv', hr'⟩ := h2.hs
    injection hv' with q1 q2 q3
    subst q1
    rcases hr' with hr' | ⟨pb, po, ha', hpb, hr'⟩
    · simp at hr'
    · injection ha' with ha'
      injection ha' with q4 q5 _
      subst q4 q5
      have := hr' l.length (by simp)
      simpa using this
  have hmark := fun W (hW : Chg [] w1 W) => marked_calls W g l.length cap (by omega) hcap hmx (rng?_chg hW hmk (by omega) (by simp))
  have hX1 := hX.1
  have hX2 := hX.one
  have HR6 := Lib.hid hr6
  have HTB := Lib.hid htb
  have HSM := Lib.hid hsame
  have HMK := Lib.hid hmark
  have HO3 := Lib.hid h3
  clear hr6 htb hsame hmark h2 h3 hmk hrow
  generalize bagV wd n l = X at *
  generalize bagErr n l = E at *
  go_wp2_with fail
  go_at_call 9
  refine HR6.out.mono ?_
  rintro e w2 ⟨rfl, hc2⟩
  go_wp2_with fail
  go_at_call 10
  have hc3 : Chg [] w1 (w2.alloc (.cells X 26)) := hc2.alloc _
  have hb3 := blk_new w2 (.cells X 26)
  have hs2 := hc2.size
  refine (HTB.out _ hc3).mono ?_
  rintro e w4 ⟨rfl, hc4⟩
  have hs4 := hc4.size
  rw [World.size_alloc] at hs4
  have hB : BgI w0 (w4.alloc (.cells X 26)) g l.length cap w2.heap.size w4.heap.size X :=
    ⟨⟨l, rfl, HO3.out.chg ((hc3.nil_trans hc4).alloc _) (by simp)⟩, ((Chg.refl [] w4).alloc _).at (hc4.at hb3 (by simp)) (by simp), blk_new w4 _, (hC1.nil_trans (hc3.nil_trans hc4)).alloc _⟩
  have hc5 : Chg [] w1 (w4.alloc (.cells X 26)) := (hc3.nil_trans hc4).alloc _
  go_upto_region 6 with (fail)
  have hL1 : g < w2.heap.size := by omega
  have hL2 : g < w4.heap.size := by omega
  have hL12 : w2.heap.size < w4.heap.size := by omega
  have hL0 : w0.heap.size ≤ w2.heap.size := by have := hC1.size; omega
  clear hb3 hs2 hs4 hc3 hc2 hc4
  generalize w4.alloc (.cells X 26) = w5 at *
  generalize w2.heap.size = L1 at *
  generalize w4.heap.size = L2 at *
  have qX : eqH X X = true := eqH_self
  have h1r := rng?_row hB.b1 hX1
  have h2r := rng?_row hB.b2 hX1
  have l1r := blk_lt hB.b1
  have l2r := blk_lt hB.b2
  have HB := Lib.hid hB
  clear hB
  go_wp2_with fail
  go_at_call 11
  refine (HSM.out _ hc5).mono ?_
  rintro e w6 ⟨rfl, hc6⟩
  go_wp2_with fail
  go_at_call 12
  refine (HMK.out _ (hc5.nil_trans hc6)).mono ?_
  rintro e w7 ⟨rfl, hc7⟩
  have hB7 : BgI w0 w7 g l.length cap L1 L2 X := by
    have c57 := hc6.nil_trans hc7
    obtain ⟨hs, e1, e2⟩ := HB.out.own
    exact ⟨⟨hs, e1, e2.chg c57 (by simp)⟩, c57.at HB.out.b1 (by simp), c57.at HB.out.b2 (by simp), HB.out.chg.nil_trans c57⟩
  have HB7 := Lib.hid hB7
  clear HB hB7 h1r h2r l1r l2r
  go_wp2_with fail
  go_loopg [12] l.length (fun g' ii wx => ∃ k : Nat, k ≤ l.length ∧ g' = l.length - k ∧ ii = .int .i64 k ∧ BgI w0 wx g l.length cap L1 L2 X)
  case atStart => exact ⟨0, by omega, by omega, rfl, HB7.out⟩
  case round =>
    obtain ⟨k, hkl, hG, rfl, hB⟩ := hrel
    by_cases hlt : k < l.length
    · have hlt' : k < l.length := hlt
      obtain ⟨hs, hsl, hO⟩ := hB.own
      obtain ⟨m, m0, m1, hcell⟩ := hO.byte k (by omega)
      have hfr := hO.fr (k * 32)
      have hup := fun (W : Nat) (m' : Int) h0 h1 => (hB.drewN W).up k hlt m' h0 h1 hg (by omega) (by omega)
      have hgw := World.block_lt_of_cell? _ _ hcell
      have HUP := Lib.hid hup
      have HG := Lib.hid hG
      clear hup hG hO hB hs hsl
      go_upto_region 11 with (fail)
      go_region
      all_goals
        go_wp2
        go_roundg (l.length - (k + 1))
        case measure => rw [HG.out]; omega
        case rel => exact ⟨k + 1, by omega, rfl, by go_num, HUP.out 1 _ (by omega) (by omega)⟩
    · obtain rfl : k = l.length := by omega
      obtain ⟨hs, hsl, hO⟩ := hB.own
      have h0 := HOwn.empty wr w0.heap.size (by have := hB.chg.size; exact this)
      have c0 : Chg [] wr (wr.alloc (.cells #[] 26)) := (Chg.refl _ _).alloc _
      obtain ⟨v1, wa, hr1, h1, c1, _⟩ := h0.append (hO.hs.chg0 c0) (by simp; omega) (by have := hB.chg.size; rw [World.size_alloc]; omega) 23
      rw [List.nil_append] at h1
      have c01 : Chg [] wr wa := c0.trans c1 (fun k hk => .inr (by rw [ob_some] at hk; simp at hk; omega))
      have hr6 := r6bagR_calls wa wd n v1 hs h1.hs hn (by omega)
      have hY := bagV_is wd n hs hO.2
      have htb := fun (W : World) hv hk => tBagR_calls W wd n (.slice (some ⟨g, 0, none⟩) l.length cap) hs hv hn (by omega) hk
      have hY1 := hY.1
      have hY2 := hY.one
      have HR6b := Lib.hid hr6
      have HTBb := Lib.hid htb
      have HO := Lib.hid hO
      have HB := Lib.hid hB
      clear hr6 htb hO hB h0 h1 c0 c1 hG
      generalize bagV wd n hs = Y at *
      generalize bagErr n hs = G at *
      have qY : eqH Y Y = true := eqH_self
      go_wp2_with (at_builtin; refine Lib.wpList_append_run _ rfl _ _ _ _ rfl _ _ rfl rfl _ _ hr1 ?_)
      go_at_call 9
      refine HR6b.out.mono ?_
      rintro e wq ⟨rfl, hcq⟩
      have c7 : Chg [] wr wq := c01.nil_trans hcq
      have bx1 := c7.at HB.out.b1 (by simp)
      have bx2 := c7.at HB.out.b2 (by simp)
      have hm1 := may_row (o := 0) (n := 32) bx1 (by rw [hX1]; omega)
      go_wp2_with fail
      go_at_call 10
      have cs : Chg [L1] wq (setRng wq L1 0 Y) := (Chg.refl [L1] _).setRng (.inl (by simp)) _ _
      have hc8 : Chg [] w0 (setRng wq L1 0 Y) := (HB.out.chg.nil_trans c7).setRng (.inr hL0) _ _
      have hs8 := ((HO.out.chg c7 (by simp)).chg cs (by rw [ob_some]; simp; omega)).hs
      have bz1 := bag_box bx1 hX1 hY1
      have bz2 := cs.at bx2 (by simp; omega)
      have ht8 := HTBb.out _ hs8 (hk.chg0 hc8)
      have HT8 := Lib.hid ht8
      clear cs hs8 ht8 hm1 bx1 bx2
      generalize setRng wq L1 0 Y = w8 at *
      refine HT8.out.mono ?_
      rintro e w9 ⟨rfl, hc9⟩
      have by1 := hc9.at bz1 (by simp)
      have by2 := hc9.at bz2 (by simp)
      have hm2 := may_row (o := 0) (n := 32) by2 (by rw [hX1]; omega)
      go_upto_region 14 with (fail)
      have cs2 : Chg [L2] w9 (setRng w9 L2 0 Y) := (Chg.refl [L2] _).setRng (.inl (by simp)) _ _
      have hc10 : Chg [] w0 (setRng w9 L2 0 Y) := (hc8.nil_trans hc9).setRng (.inr (by omega)) _ _
      have bu2 := bag_box by2 hX1 hY1
      have bu1 := cs2.at by1 (by simp; omega)
      clear cs2 hm2 by1 by2 bz1 bz2
      generalize setRng w9 L2 0 Y = w10 at *
      have r1 := rng?_row bu1 hY1
      have r2 := rng?_row bu2 hY1
      have l1 := blk_lt bu1
      have l2 := blk_lt bu2
      have haw := awake_calls w10 (hk.chg0 hc10)
      have HAW := Lib.hid haw
      clear haw
      go_wp2_with fail
      go_at_call 13
      refine HAW.out.mono ?_
      rintro e w11 ⟨rfl, hc11⟩
      go_wp2
      go_ret
      exact ⟨rfl, hc10.nil_trans hc11⟩
theorem bags_big (w : World) (wd : Int) (n : Nat) (lv : Value) (l : List (Array Value)) (hv : HsIs w lv l) (hlen : 200 < l.length) : Calls Tryd.prog 3 #[.int .i64 wd, .int .u64 n, lv] w (Res w [] (.bool true)) := by
  obtain ⟨hI, a, capl, rfl, hrl⟩ := hv
  clear hrl
  have hgt : decide ((200 : Int) < (l.length : Int)) = true := decide_eq_true (by omega)
  go_enter Tryd.func3, Tryd.ntmps3
  go_wp2
  go_ret
  exact ⟨rfl, Chg.refl _ _⟩
theorem bags_calls (w : World) (wd : Int) (n : Nat) (hn : n < 18446744073709551616) (lv : Value) (l : List (Array Value)) (hv : HsIs w lv l) (hk : HIs w) : Calls Tryd.prog 3 #[.int .i64 wd, .int .u64 n, lv] w (Res w [] (.bool true)) := by
  by_cases h : l.length ≤ 200
  · exact bags_walk w wd n hn lv l hv h hk
  · exact bags_big w wd n lv l hv (by omega)
theorem bags_row (w : World) (wd : Int) (_ : -9223372036854775808 ≤ wd ∧ wd < 9223372036854775808) (n : Int) (hn : 0 ≤ n ∧ n < 18446744073709551616) (lv : Value) (l : List (Array Value)) (hv : HsIs w lv l) (hk : HIs w) : Calls Tryd.prog 3 #[.int .i64 wd, .int .u64 n, lv] w (Res w [] (.bool true)) := by
  obtain ⟨m, rfl⟩ : ∃ m : Nat, n = m := ⟨n.toNat, by omega⟩
  exact bags_calls w wd m (by omega) lv l hv hk
end Go.Proofs.YtogkfjljdmbogaaDoor

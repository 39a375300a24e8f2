/- The document's hash: a text's blocks walked. -/
import Derived.Test.YtogkfjljdmbogaaDoorRfF
namespace Go.Proofs.YtogkfjljdmbogaaDoor
open Go.RowKit
set_option linter.unusedVariables false
set_option linter.unusedSimpArgs false

theorem BOwn.emptyR (w : World) (B : Nat) (hB : B ≤ w.heap.size) : BOwn (w.alloc (.cells #[] 5)) B (.slice (some ⟨w.heap.size, 0, none⟩) 0 0) [] :=
  own_new w B 5 1 0 #[] hB rfl (by decide)
theorem BOwn.chg {w w' : World} {B : Nat} {v : Value} {l : List Nat} {F : List Nat} (h : BOwn w B v l) (hc : Chg F w w') (hF : ∀ k ∈ ob v, k ∉ F) : BOwn w' B v l := own_chg h hc hF
/-- One byte put behind. -/
theorem BOwn.push {w : World} {B : Nat} {v : Value} {l : List Nat} (h : BOwn w B v l) (x : Nat) (hx : x < 256) (hlen : l.length ≤ 1099511627000) (hB : B ≤ w.heap.size) :
    ∃ v' w', (Builtin.append_ #[35, 35] 35 #[v, .slice (some ⟨w.heap.size, 0, none⟩) 1 1]).run Tryd.prog (w.alloc (.cells #[.int .u8 x] 5)) = .ok v' w' ∧ BOwn w' B v' (l ++ [x]) ∧ Chg (ob v) w w' := by
  have hc : Chg [] w (w.alloc (.cells #[.int .u8 x] 5)) := (Chg.refl _ _).alloc _
  obtain ⟨v', w', hr, h2, h3, h4⟩ := BsIs.append (h.chg hc (by simp)) (one_bs (blk_new w (.cells #[.int .u8 (x : Int)] 5)) hx) (by simp; omega) (by have := hc.size; omega) 35
  exact ⟨v', w', hr, h2, hc.of_nil.trans h3 (fun k hk => .inl hk)⟩
theorem box_bsG {w : World} {B n : Nat} {l : List Nat} {t : TypeId} (h : w.heap[B]? = some (.cells (hV l) t (0, 0))) (hl : l.length = n) (hn : n ≤ maxLen) (hb : ∀ x ∈ l, x < 256) : BsIs w (.slice (some ⟨B, 0, none⟩) n n) l := by
  subst hl
  refine ⟨hb, _, l.length, rfl, Nat.le_refl _, hn, .inr ⟨B, 0, rfl, blk_lt h, fun i hi => ?_⟩⟩
  rw [Nat.zero_add, blk_cell h i (hV_at l i hi)]
  simp [List.getD, hi]
def BlocksP (w : World) (l : List Nat) (e : Ending) (w' : World) : Prop := ∃ v, e = .returned v ∧ AOwn w' w.heap.size v (blocksN (padded l) ((padded l).length / 64)) ∧ Chg [] w w'
/-- The tail's eight bytes, written from behind. -/
def in8 (x c : Nat) : List Nat := List.replicate c 0 ++ (bigN x 8).drop c
theorem in8_length (x c : Nat) (hc : c ≤ 8) : (in8 x c).length = 8 := by simp [in8, bigN_length]; omega
theorem in8_step (x k : Nat) (hk : k < 8) : (in8 x (k + 1)).set k (x / 256 ^ (7 - k) % 256) = in8 x k := by
  have hb : (bigN x 8).drop k = (x / 256 ^ (7 - k) % 256) :: (bigN x 8).drop (k + 1) := by
    rw [List.drop_eq_getElem_cons (by rw [bigN_length]; exact hk)]
    congr 1
    simp only [bigN, List.getElem_map, List.getElem_range]
    rw [show 8 - 1 - k = 7 - k from by omega, show (256 : Nat) = 2 ^ 8 from rfl, ← Nat.pow_mul]
  unfold in8
  rw [hb, List.replicate_succ', List.append_assoc, List.set_append_right _ _ (by simp), List.length_replicate, Nat.sub_self]
  simp
theorem in8_end (x : Nat) : in8 x 0 = bigN x 8 := by simp [in8]
set_option maxRecDepth 100000 in
set_option maxHeartbeats 8000000 in
theorem r2blocks_calls (w : World) (v : Value) (l : List Nat) (hv : BsIs w v l) (hl : l.length ≤ 1000000000) : Calls Tryd.prog 63 #[v] w (BlocksP w l) := by
  obtain ⟨w0, rfl⟩ : ∃ w0 : World, w0 = w := ⟨_, rfl⟩
  have hlt := hv.1
  obtain ⟨va, vcap, rfl⟩ : ∃ a cap, v = .slice a l.length cap := by obtain ⟨_, a, cap, h, _⟩ := hv; exact ⟨a, cap, h⟩
  have ce : Chg [] w0 (w0.alloc (.cells #[] 5)) := (Chg.refl _ _).alloc _
  obtain ⟨v1, w1, hr1, h1, c1, b1⟩ := BsIs.append (BOwn.emptyR w0 w0.heap.size (Nat.le_refl _)) (hv.chg0 ce) (by simp; omega) (by simp) 35
  rw [List.nil_append] at h1
  have k1 : Chg [] w0 w1 := ce.trans c1 (fun k hk => .inr (by rw [ob_some] at hk; simp at hk; omega))
  obtain ⟨v2, w2, hr2, h2, c2⟩ := h1.push 128 (by omega) (by omega) k1.size
  have ol1 := own_lt h1
  have k2 : Chg [] w0 w2 := k1.trans c2 (fun k hk => .inr (ol1 k hk).1)
  have hr2' : (Builtin.append_ #[35, 35] 35 #[v1, .slice (some ⟨w1.heap.size, 0, none⟩) 1 1]).run Tryd.prog (w1.alloc (.cells #[.int .u8 128] 5)) = .ok v2 w2 := hr2
  have h2' : BOwn w2 w0.heap.size v2 (l ++ 128 :: List.replicate 0 0) := h2
  clear h1 c1 b1 k1 c2 ol1 hr2 h2 ce hv
  go_enter Tryd.func63, Tryd.ntmps63
  go_wp2_with (first
    | (at_builtin; refine Lib.wpList_append_run _ rfl _ _ _ _ rfl _ _ rfl rfl _ _ hr1 ?_)
    | (at_builtin; refine Lib.wpList_append_run _ rfl _ _ _ _ rfl _ _ rfl rfl _ _ hr2' ?_))
  clear hr1 hr2'
  go_loopg [3] (padN l.length) (fun g vv wx => ∃ k : Nat, k ≤ padN l.length ∧ g = padN l.length - k ∧ BOwn wx w0.heap.size vv (l ++ 128 :: List.replicate k 0) ∧ Chg [] w0 wx)
  case atStart => exact ⟨0, by omega, by omega, h2', k2⟩
  case round =>
    clear h2' k2
    obtain ⟨k, hk, hg, hO, hC⟩ := hrel
    have hpd : padN l.length = (119 - l.length % 64) % 64 := rfl
    have hll : (l ++ 128 :: List.replicate k 0).length = l.length + 1 + k := by simp; omega
    obtain ⟨ba, bcap, hbe⟩ : ∃ a cap, _ = Value.slice a (l ++ 128 :: List.replicate k 0).length cap := by
      have := hO.bs (by
        intro x hx
        simp only [List.mem_append, List.mem_cons] at hx
        rcases hx with h | rfl | h
        · exact hlt x h
        · decide
        · rw [List.eq_of_mem_replicate h]; decide)
      obtain ⟨_, a, cap, h, _⟩ := this
      exact ⟨a, cap, h⟩
    subst hbe
    have hO2 := hO
    rw [hll] at hO ⊢
    have hol := own_lt hO2
    have hbnd : l.length + 1 + k ≤ 1000000100 := by omega
    by_cases hlt2 : k < padN l.length
    · have hlt' := hlt2
      obtain ⟨v3, w3, hr3, h3, c3⟩ := hO2.push 0 (by omega) (by omega) hC.size
      have hsn : (l ++ 128 :: List.replicate k 0) ++ [0] = l ++ 128 :: List.replicate (k + 1) 0 := by rw [List.append_assoc, List.cons_append, ← List.replicate_succ']
      rw [hsn] at h3
      rw [hll] at hr3
      have hr3' : (Builtin.append_ #[35, 35] 35 #[.slice ba (l.length + 1 + k) bcap, .slice (some ⟨wr.heap.size, 0, none⟩) 1 1]).run Tryd.prog (wr.alloc (.cells #[.int .u8 0] 5)) = .ok v3 w3 := hr3
      have k3 : Chg [] w0 w3 := hC.trans c3 (fun j hj => .inr (hol j hj).1)
      have ht : (((l.length + 1 + k : Nat) : Int) % 64 != 56) = true := by rw [bne_iff_ne]; omega
      have HO3 := Lib.hid h3
      have HG := Lib.hid hg
      clear hr3 h3 c3 hO hO2 hol hg hsn hll hpd hlt
      generalize l.length + 1 + k = L at *
      go_wp2_with (at_builtin; refine Lib.wpList_append_run _ rfl _ _ _ _ rfl _ _ rfl rfl _ _ hr3' ?_)
      go_roundg (padN l.length - (k + 1))
      case measure => rw [HG.out]; omega
      case rel => exact ⟨k + 1, by omega, rfl, HO3.out, k3⟩
    · obtain rfl : k = padN l.length := by omega
      have ht : (((l.length + 1 + padN l.length : Nat) : Int) % 64 != 56) = false := by rw [bne_eq_false_iff_eq]; omega
      obtain ⟨wo, rfl⟩ : ∃ wo : World, wo = wr := ⟨_, rfl⟩
      have hpl := padded_length l
      have hp64 := padded_64 l
      have hplt := padded_lt l hlt
      have h8 : IntKind.u64.wrap (8 * (l.length : Int)) = ((8 * l.length : Nat) : Int) := by rw [IntKind.wrap_u64]; omega
      have HO := Lib.hid hO2
      have HOL := Lib.hid hol
      have HLL := Lib.hid hll
      clear hg hO hO2 hol hll hpd
      generalize l.length + 1 + padN l.length = L at *
      go_wp2
      have hin : in8 (8 * l.length) 8 = List.replicate 8 0 := by unfold in8; rw [List.drop_of_length_le (by rw [bigN_length]; omega), List.append_nil]
      have hbx : (wo.alloc (.cells #[.int .u8 0, .int .u8 0, .int .u8 0, .int .u8 0, .int .u8 0, .int .u8 0, .int .u8 0, .int .u8 0] 100)).heap[wo.heap.size]? = some (.cells (hV (in8 (8 * l.length) 8)) 100 (0, 0)) := by rw [hin]; exact blk_new wo _
      have hx0 : Value.int .u64 (8 * (l.length : Int)) = .int .u64 ((8 * l.length / 256 ^ (8 - 8) : Nat) : Int) := by simp
      rw [hx0]
      clear hin hx0 h8
      have hxb : 8 * l.length ≤ 8000000000 := by omega
      obtain ⟨x8, hx8e⟩ : ∃ x8, x8 = 8 * l.length := ⟨_, rfl⟩
      rw [← hx8e] at hbx hxb ⊢
      have HX8 := Lib.hid hx8e
      clear hx8e
      go_loopg [4, 6] 8 (fun g xx jj wx => ∃ c : Nat, c ≤ 8 ∧ g = c ∧ jj = .int .i64 ((c : Int) - 1) ∧ xx = .int .u64 (x8 / 256 ^ (8 - c) : Nat) ∧ wx.heap[wo.heap.size]? = some (.cells (hV (in8 x8 c)) 100 (0, 0)) ∧ Chg [] wo wx)
      case atStart => exact ⟨8, by omega, rfl, rfl, rfl, hbx, (Chg.refl _ _).alloc _⟩
      case round =>
        clear hbx
        obtain ⟨c, hc, hg, rfl, rfl, hbx, hCx⟩ := hrel
        cases c with
        | succ k =>
          have hk8 : k < 8 := hc
          have hst := in8_step x8 k hk8
          have hil := in8_length x8 (k + 1) (by omega)
          rw [show (((k + 1 : Nat) : Int) - 1) = (k : Int) from by omega, show 8 - (k + 1) = 7 - k from by omega]
          have hdv : x8 / 256 ^ (8 - k) = x8 / 256 ^ (7 - k) / 256 := by rw [Nat.div_div_eq_div_mul, ← Nat.pow_succ, show (7 - k).succ = 8 - k from by omega]
          have hxl : x8 / 256 ^ (7 - k) ≤ x8 := Nat.div_le_self _ _
          have hcell := blk_cell hbx k (hV_at (in8 x8 (k + 1)) k (by omega))
          have hfr := blk_frozen hbx k
          have hnb := blk_set hbx k (.int .u8 (x8 / 256 ^ (7 - k) % 256 : Nat))
          rw [hV_set, hst] at hnb
          have hcx := hCx.setCell (p := ⟨wo.heap.size, k, none⟩) (.inr (Nat.le_refl _)) (.int .u8 (x8 / 256 ^ (7 - k) % 256 : Nat))
          have hbl := blk_lt hbx
          have hx8 : x8 ≤ 8000000000 := hxb
          generalize x8 / 256 ^ (7 - k) = x' at *
          have hm : ((x' : Int)) % 256 = ((x' % 256 : Nat) : Int) := by omega
          have hmb : x' % 256 < 256 := Nat.mod_lt _ (by decide)
          generalize x' % 256 = bb at *
          have q0 : (0 : Int) ≤ (k : Int) := by omega
          have q1 : (k : Int) < 8 := by omega
          have HNB := Lib.hid hnb
          have HCX := Lib.hid hcx
          have HDV := Lib.hid hdv
          have HG := Lib.hid hg
          clear hst hil hnb hcx hdv hbx hCx hg
          go_wp2
          go_roundg k
          case measure => rw [HG.out]; omega
          case rel => exact ⟨k, by omega, rfl, by go_num, by rw [HDV.out]; go_num, HNB.out, HCX.out⟩
        | zero =>
          rw [in8_end] at hbx
          clear hg
          obtain ⟨wp, rfl⟩ : ∃ wp : World, wp = wr := ⟨_, rfl⟩
          have hbs : BsIs wp (.slice (some ⟨wo.heap.size, 0, none⟩) 8 8) (bigN x8 8) := box_bsG hbx (bigN_length _ _) (by decide) (bigN_lt _ _)
          have hOp := HO.out.chg hCx (by simp)
          obtain ⟨v5, w5, hr5, h5, c5, b5⟩ := BsIs.append hOp hbs (by rw [bigN_length, HLL.out]; omega) (by have := hC.size; have := hCx.size; omega) 35
          rw [HLL.out] at hr5
          have hP : (l ++ 128 :: List.replicate (padN l.length) 0) ++ bigN x8 8 = padded l := by rw [HX8.out]; unfold padded tailN; simp
          rw [hP] at h5
          have k5 : Chg [] w0 w5 := (hC.nil_trans hCx).trans c5 (fun j hj => .inr (HOL.out j hj).1)
          have hPb := h5.bs hplt
          obtain ⟨_, pa, pcap, hpe, _, _, hpr⟩ := hPb
          subst hpe
          have hPl : (padded l).length = 64 * ((padded l).length / 64) := by omega
          have hok := blocksN_ok (padded l) ((padded l).length / 64) (by omega) hplt
          have hPb : (padded l).length ≤ 2000000000 := by rw [hpl]; unfold padN; omega
          have hblk : ∀ i, i < (padded l).length / 64 → BlkOk (((padded l).drop (64 * i)).take 64) := fun i hi => hok _ (List.mem_map.2 ⟨i, List.mem_range.2 hi, rfl⟩)
          have HBK := Lib.hid hblk
          have HPL := Lib.hid hPl
          have hlp : ∀ x ∈ padded l, x < 256 := hplt
          clear hbs hOp h5 c5 b5 hP hok hpl hp64 HO HOL HLL HX8 hbx hCx hC hblk hPl hplt hlt
          have hfin : ∀ v W, AOwn W w0.heap.size v (blocksN (padded l) ((padded l).length / 64)) → Chg [] w0 W → BlocksP w0 l (.returned v) W := fun v W h1 h2 => ⟨v, rfl, h1, h2⟩
          have HFI := Lib.hid hfin
          clear hfin
          generalize padded l = P at *
          generalize P.length / 64 = m at *
          go_wp2_with (at_builtin; refine Lib.wpList_append_run _ rfl _ _ _ _ rfl _ _ rfl rfl _ _ hr5 ?_)
          clear hr5
          go_loopg [7, 8] m (fun g vv ii wx => ∃ i : Nat, i ≤ m ∧ g = m - i ∧ ii = .int .i64 (64 * i : Nat) ∧ AOwn wx w5.heap.size vv (blocksN P i) ∧ Chg [] w5 wx)
          case atStart => exact ⟨0, by omega, by omega, rfl, AOwn.nil _ _, Chg.refl _ _⟩
          case round =>
            obtain ⟨i, hi, hg, rfl, hA, hCa⟩ := hrel
            by_cases hlt : i < m
            · have hlt' := hlt
              rcases hpr with hpr | ⟨pb, po, rfl, hpb, hpr⟩
              · subst hpr; have := HPL.out; simp at this; omega
              have hbk := HBK.out i hlt'
              have hcl := blocksN_snoc P i
              have hPL := HPL.out
              have hin : 64 * i + 64 ≤ P.length := by omega
              have ht : decide (64 * i < P.length) = true := decide_eq_true (by omega)
              have hpc : ∀ (j : Nat) (hj : j < 64), w5.cell? ⟨pb, po + (64 * i + j), none⟩ = some (.int .u8 (((P.drop (64 * i)).take 64).getD j 0 : Nat)) := fun j hj => by
                rw [hpr (64 * i + j) (by omega)]
                simp [List.getD, List.getElem?_take, List.getElem?_drop, hj, show 64 * i + j < P.length by omega]
              have hpush := fun (W : World) (hW : Chg [] wr W) => (hA.chg hW (by simp)).push ((P.drop (64 * i)).take 64) hbk (by rw [blocksN_length]; omega) (by have := hCa.size; have := hW.size; omega) 98
              rw [← hcl] at hpush
              have hol := own_lt hA.1
              have HG := Lib.hid hg
              have HPC := Lib.hid hpc
              have HPU := Lib.hid hpush
              have HOL := Lib.hid hol
              have hbx0 : (wr.alloc (.cells zero_a64b 102)).heap[wr.heap.size]? = some (.cells (hV (((P.drop (64 * i)).take 64).take 0 ++ List.replicate (64 - 0) 0)) 102 (0, 0)) := blk_new wr _
              obtain ⟨hck, hcb⟩ := hbk
              clear hg hpc hpush hol hA hcl hpr hPL
              generalize (P.drop (64 * i)).take 64 = ck at *
              have hI : 64 * i ≤ 2000000000 := by omega
              generalize hIe : 64 * i = I at *
              have HI : Shut (64 * i = I) := ⟨hIe⟩
              clear hIe
              obtain ⟨wq, rfl⟩ : ∃ wq : World, wq = wr := ⟨_, rfl⟩
              go_wp2
              go_loopg [10] 64 (fun g jj wx => ∃ j : Nat, j ≤ 64 ∧ g = 64 - j ∧ jj = .int .i64 j ∧ wx.heap[wq.heap.size]? = some (.cells (hV (ck.take j ++ List.replicate (64 - j) 0)) 102 (0, 0)) ∧ Chg [] wq wx)
              case atStart => exact ⟨0, by omega, by omega, rfl, hbx0, (Chg.refl _ _).alloc _⟩
              case round =>
                clear hbx0
                obtain ⟨j, hj, hgj, rfl, hbx, hCq⟩ := hrel
                have htl : (ck.take j).length = j := by rw [List.length_take]; omega
                by_cases hjl : j < 64
                · have hjl' := hjl
                  have hpcj := ((hCa.nil_trans hCq).cell (p := ⟨pb, po + (I + j), none⟩) hpb (by simp)).trans (HPC.out j hjl')
                  have hpbl := World.block_lt_of_cell? _ _ hpcj
                  have hset := set_next (ck.take j) j 64 (ck.getD j 0) htl hjl'
                  have htk : ck.take j ++ [ck.getD j 0] = ck.take (j + 1) := by rw [List.take_succ_eq_append_getElem (by omega)]; simp [List.getD, show j < ck.length by omega]
                  rw [htk] at hset
                  have hcell := blk_cell hbx j (hV_at (ck.take j ++ List.replicate (64 - j) 0) j (by rw [List.length_append, htl, List.length_replicate]; omega))
                  have hfr := blk_frozen hbx j
                  have hnb := blk_set hbx j (.int .u8 (ck.getD j 0 : Nat))
                  rw [hV_set, hset] at hnb
                  have hcx := hCq.setCell (p := ⟨wq.heap.size, j, none⟩) (.inr (Nat.le_refl _)) (.int .u8 (ck.getD j 0 : Nat))
                  have hbl := blk_lt hbx
                  have q0 : (0 : Int) ≤ (j : Int) := by omega
                  have q1 : (j : Int) < 64 := by omega
                  have q2 : (0 : Int) ≤ (I : Int) + (j : Int) := by omega
                  have q3 : (I : Int) + (j : Int) < (P.length : Int) := by omega
                  have q4 : ((I : Int) + (j : Int)).toNat = I + j := by omega
                  have HNB := Lib.hid hnb
                  have HCX := Lib.hid hcx
                  have HGJ := Lib.hid hgj
                  clear hset htk hnb hcx hbx hCq hgj htl
                  generalize ck.getD j 0 = bb at *
                  go_wp2
                  go_roundg (64 - (j + 1))
                  case measure => rw [HGJ.out]; omega
                  case rel => exact ⟨j + 1, by omega, rfl, by go_num, HNB.out, HCX.out⟩
                · obtain rfl : j = 64 := by omega
                  rw [List.take_of_length_le (by omega), Nat.sub_self, List.replicate_zero, List.append_nil] at hbx
                  have hs64 : (hV ck).size = 64 := by rw [hV_size]; exact hck
                  have hrx : rng? wr wq.heap.size 0 64 = some (hV ck) := rng?_row hbx hs64
                  have hbl := blk_lt hbx
                  obtain ⟨v7, w7, hr7, h7, c7, b7⟩ := HPU.out wr hCq
                  have k7 : Chg [] w5 w7 := (hCa.nil_trans hCq).trans c7 (fun j hj => .inr (HOL.out j hj).1)
                  have H7 := Lib.hid h7
                  have ho64 : one1 (hV ck) = true := hV_one _
                  clear hgj hbx hCq h7 c7 b7 htl
                  generalize hV ck = cks at *
                  go_wp2_with (at_builtin; refine Lib.wpList_append_run _ rfl _ _ _ _ rfl _ _ rfl rfl _ _ hr7 ?_)
                  go_roundg (m - (i + 1))
                  case measure => rw [HG.out]; omega
                  case rel => exact ⟨i + 1, by omega, rfl, by have := HI.out; go_num, H7.out, k7⟩
            · obtain rfl : i = m := by omega
              have hPL := HPL.out
              have ht : decide (64 * i < P.length) = false := decide_eq_false (by omega)
              clear hg hpr
              go_wp2
              go_ret
              exact HFI.out _ _ ⟨own_mono hA.1 k5.size, hA.2⟩ (k5.nil_trans hCa)
end Go.Proofs.YtogkfjljdmbogaaDoor

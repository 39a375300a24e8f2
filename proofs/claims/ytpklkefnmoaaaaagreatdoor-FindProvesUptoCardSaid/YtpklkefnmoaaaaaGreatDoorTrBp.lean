/- Texts put into one by pack.py: TrB. -/
import Derived.Test.YtpklkefnmoaaaaaGreatDoorPkF
/- A tree: Append. -/
namespace Go.Proofs.YtpklkefnmoaaaaaGreatDoor
open Go.RowKit
set_option linter.unusedVariables false
set_option linter.unusedSimpArgs false

structure ApI (w wr : World) (b L : Nat) (t : TS) (fin : NV) (h : Nat) (s' : SS) (leaf : Array Value) : Prop where
  tr : TrIs wr b { t with s := s' }
  box : wr.heap[L]? = some (.cells leaf 36 (0, 0))
  Lf : L ∉ b :: s'.foot t.sb
  Lw : w.heap.size ≤ L
  lh : IsHash leaf
  chg : Chg (t.foot b) w wr
  new : ∀ k ∈ s'.foot t.sb, k ∈ t.foot b ∨ w.heap.size ≤ k
  n : s'.n = t.s.n + 1 + h
  al : s'.alive = t.s.alive + 1 + h
  log : s'.log = t.s.log
  pins : s'.pins = t.s.pins
  cl : climb t.wd (t1 t.size - h) h s'.view leaf = fin
  h : h ≤ t1 t.size
/-- A push, seen from the tree. -/
theorem push_tree {wr w' : World} {b : Nat} {t : TS} {s' : SS} {leaf : Array Value} {e : Ending} (hst : TrIs wr b { t with s := s' }) (hp : PushP wr t.sb s' leaf e w') :
    e = .returned (.int .u64 s'.n) ∧ ∃ s2, TrIs w' b { t with s := s2 } ∧ s2.view = s'.view.push leaf ∧ s2.n = s'.n + 1 ∧ s2.alive = s'.alive + 1 ∧ s2.log = s'.log ∧ s2.pins = s'.pins ∧ Chg (s'.foot t.sb) wr w' ∧ (∀ k ∈ s2.foot t.sb, k ∈ s'.foot t.sb ∨ wr.heap.size ≤ k) := by
  obtain ⟨he, s2, h1, h2, h3⟩ := hp
  have hlt := hst.lt
  have hb : b < wr.heap.size := hlt b (by simp [TS.foot])
  refine ⟨he, s2, ⟨h3.1.at hst.mem hst.apart, h1, ?_, ?_, hst.wd⟩, ?_, h2.n, h2.alive, h2.log, h2.pins, h3.1, h3.2⟩
  · intro hm
    rcases h3.2 b hm with q | q
    · exact hst.apart q
    · omega
  · intro k hk
    simp only [TS.foot, List.mem_cons] at hk
    rcases hk with rfl | hk
    · exact hst.low _ (by simp [TS.foot])
    · rcases h3.2 k hk with q | q
      · exact hst.low k (by simp [TS.foot, q])
      · have := hst.low b (by simp [TS.foot]); omega
  · unfold SS.view NV.push
    rw [h2.n]
    congr 1
    funext q
    exact h2.node q
theorem ApI.first {w w2 : World} {b : Nat} {t : TS} {leaf : Array Value} {e : Ending} {W : World} (ht : TrIs w b t) (hW : Chg [] w W) (hbox : W.heap[w.heap.size]? = some (.cells leaf 36 (0, 0))) (hl : IsHash leaf) (hp : PushP W t.sb t.s leaf e w2) :
    e = .returned (.int .u64 t.s.n) ∧ ∃ s', ApI w w2 b w.heap.size t (appV t.wd t.size t.s.view leaf) 0 s' leaf := by
  obtain ⟨he, s2, h1, h2, h3, h4, h5, h6, h7, h8⟩ := push_tree (t := t) (s' := t.s) (ht.chg0 hW) hp
  have hlt := ht.lt
  have hsz := hW.size
  have hbW := blk_lt hbox
  have hnf : w.heap.size ∉ t.s.foot t.sb := fun hm => by have := hlt w.heap.size (by simp [TS.foot, hm]); omega
  refine ⟨he, s2, h1, h7.at hbox hnf, ?_, Nat.le_refl _, hl, ?_, ?_, by rw [h3], by rw [h4], h5, h6, ?_, Nat.zero_le _⟩
  · intro hm
    simp only [List.mem_cons] at hm
    rcases hm with hm | hm
    · have := hlt b (by simp [TS.foot]); omega
    · rcases h8 _ hm with q | q
      · exact hnf q
      · omega
  · exact hW.of_nil.trans h7 (fun k hk => .inl (by simp [TS.foot, hk]))
  · intro k hk
    rcases h8 k hk with q | q
    · exact .inl (by simp [TS.foot, q])
    · right; omega
  · rw [h2, Nat.sub_zero]
    rfl
theorem ApI.next {w wr W9 w' : World} {b L h : Nat} {t : TS} {fin : NV} {s' : SS} {leaf x : Array Value} {e : Ending} (hA : ApI w wr b L t fin h s' leaf) (hlt : h < t1 t.size) (hW : Chg [L] wr W9) (hbox : W9.heap[L]? = some (.cells x 36 (0, 0)))
    (hx : x = nodeA t.wd (s'.view.get (s'.view.n - 1 - (2 ^ (h + 1) - 1))) leaf) (hxi : IsHash x) (hp : PushP W9 t.sb s' x e w') : e = .returned (.int .u64 s'.n) ∧ ∃ s2, ApI w w' b L t fin (h + 1) s2 x := by
  have ht9 : TrIs W9 b { t with s := s' } := hA.tr.chg hW (fun k hk hm => hA.Lf (by simp at hm; subst hm; exact hk))
  obtain ⟨he, s2, h1, h2, h3, h4, h5, h6, h7, h8⟩ := push_tree (t := t) ht9 hp
  have hsz := hW.size
  have hsw := hA.chg.size
  have hbW := blk_lt hbox
  have hLf : L ∉ s'.foot t.sb := fun hm => hA.Lf (by simp [hm])
  refine ⟨he, s2, h1, h7.at hbox hLf, ?_, hA.Lw, hxi, ?_, ?_, by rw [h3, hA.n]; omega, by rw [h4, hA.al]; omega, h5.trans hA.log, h6.trans hA.pins, ?_, by omega⟩
  · intro hm
    simp only [List.mem_cons] at hm
    rcases hm with hm | hm
    · exact hA.Lf (by simp [hm])
    · rcases h8 _ hm with q | q
      · exact hLf q
      · omega
  · refine (hA.chg.trans hW (fun k hk => ?_)).trans h7 (fun k hk => ?_)
    · simp at hk; subst hk; exact .inr hA.Lw
    · exact hA.new k hk
  · intro k hk
    rcases h8 k hk with q | q
    · exact hA.new k q
    · right; omega
  · have hc := hA.cl
    rw [show t1 t.size - h = (t1 t.size - (h + 1)) + 1 from by omega] at hc
    rw [h2, ← hc, hx]
    rfl
def AppP (w : World) (b : Nat) (t : TS) (leaf : Array Value) (e : Ending) (w' : World) : Prop :=
  e = .returned (.int .u64 t.size) ∧ ∃ t', TrIs w' b t' ∧ t'.sb = t.sb ∧ t'.wd = t.wd ∧ t'.size = t.size + 1 ∧ t'.s.view = appV t.wd t.size t.s.view leaf ∧ t'.s.n = t.s.n + 1 + t1 t.size ∧ t'.s.alive = t.s.alive + 1 + t1 t.size ∧
    t'.s.log = t.s.log ∧ t'.s.pins = t.s.pins ∧ Chg (t.foot b) w w' ∧ (∀ k ∈ t'.foot b, k ∈ t.foot b ∨ w.heap.size ≤ k)
theorem ApI.last {w wr : World} {b L : Nat} {t : TS} {fin : NV} {s' : SS} {leaf l0 : Array Value} (hA : ApI w wr b L t fin (t1 t.size) s' leaf) (hf : fin = appV t.wd t.size t.s.view l0) : AppP w b t l0 (.returned (.int .u64 t.size)) (wr.setCell ⟨b, 2, none⟩ (.int .u64 (t.size + 1 : Nat))) := by
  have hcl := hA.cl
  rw [Nat.sub_self] at hcl
  have hc : Chg [b] wr (wr.setCell ⟨b, 2, none⟩ (.int .u64 (t.size + 1 : Nat))) := (Chg.refl _ _).setCell (by simp) _
  refine ⟨rfl, ⟨s', t.sb, t.wd, t.size + 1⟩, ⟨?_, hA.tr.st.chg hc (fun k hk hm => ?_), hA.tr.apart, hA.tr.low, hA.tr.wd⟩, rfl, rfl, rfl, ?_, hA.n, hA.al, hA.log, hA.pins, hA.chg.trans hc (fun k hk => .inl (by simp at hk; simp [TS.foot, hk])), ?_⟩
  · have := blk_set hA.tr.mem 2 (.int .u64 (t.size + 1 : Nat))
    rw [this]
    rfl
  · simp at hm; subst hm; exact hA.tr.apart hk
  · show s'.view = _
    rw [← hf, ← hcl]
    rfl
  · intro k hk
    simp only [TS.foot, List.mem_cons] at hk
    rcases hk with rfl | hk
    · exact .inl (by simp [TS.foot])
    · exact hA.new k hk
def GetA (wr : World) (L : Nat) (H : Array Value) (v8 : Value) (wx : World) : Prop := ∃ g, v8 = .pointer (some ⟨g, 0, none⟩) ∧ Chg [] wr wx ∧ rng? wx g 0 32 = some H ∧ g ≠ L
def NodeB (wr : World) (L : Nat) (x : Array Value) (wx : World) : Prop := Chg [L] wr wx ∧ wx.heap[L]? = some (.cells x 36 (0, 0))
theorem box_set {w : World} {L : Nat} {x y : Array Value} (h : w.heap[L]? = some (.cells x 36 (0, 0))) (hx : x.size = 32) (hy : y.size = 32) : (setRng w L 0 y).heap[L]? = some (.cells y 36 (0, 0)) := by
  rw [setRng_heap h 0 y (by omega)]
  congr 2
  apply Array.toList_inj.1
  have : List.drop (0 + y.size) x.toList = [] := by rw [List.drop_eq_nil_iff]; simp; omega
  simp [this]
  omega
theorem hash_rng' {w : World} {b : Nat} {x : Array Value} {t : TypeId} (h : w.heap[b]? = some (.cells x t (0, 0))) (hl : x.size = 32) : rng? w b 0 32 = some x := rng?_row h hl
set_option maxRecDepth 100000 in
set_option maxHeartbeats 8000000 in
theorem append_calls (w : World) (b : Nat) (t : TS) (leaf : Array Value) (ht : TrIs w b t) (hl : IsHash leaf) (hk : HIs w) (hsz : t.size < 4611686018427387904) (hn : t.s.n = nodesN t.size) (ha : t.s.alive < 1000000000000) :
    Calls Tryz.prog 21 #[.pointer (some ⟨b, 0, none⟩), .agg leaf] w (AppP w b t leaf) := by
  have hb := blk_lt ht.mem
  have c0 := blk_cell ht.mem 0 rfl
  have c1 := blk_cell ht.mem 1 rfl
  have c2 := blk_cell ht.mem 2 rfl
  have hls := hl.1
  have hnb : nodesN t.size ≤ 2 * t.size := nodes_le _
  have hng : t.size ≤ nodesN t.size := nodes_ge _
  have ht1 := t1_le t.size hsz
  have hne : ((t.size : Int) == 4611686018427387904) = false := by rw [beq_eq_false_iff_ne]; omega
  have hbox0 : (w.alloc (.cells leaf 36)).drew.heap[w.heap.size]? = some (.cells leaf 36 (0, 0)) := blk_drew (blk_new w _)
  have hW0 : Chg [] w (w.alloc (.cells leaf 36)).drew := ((Chg.refl _ _).alloc _).drew
  have hpush := push_calls t.sb t.s leaf (w.alloc (.cells leaf 36)).drew (ht.st.chg0 hW0) hl (by omega) (by omega)
  have hfst := fun (e : Ending) (w2 : World) (hp : PushP (w.alloc (.cells leaf 36)).drew t.sb t.s leaf e w2) => ApI.first ht hW0 hbox0 hl hp
  have HF := Lib.hid hfst
  have HP := Lib.hid hpush
  have hll := t1_end t.size
  have HN := Lib.hid hn
  clear hfst hpush hn
  go_enter Tryz.func21, Tryz.ntmps21
  go_upto_region 4 with (fail)
  go_cut [6] from 6 to 22 (fun v6 wx => v6 = .int .u64 t.s.n ∧ ∃ s', ApI w wx b w.heap.size t (appV t.wd t.size t.s.view leaf) 0 s' leaf)
  case first =>
    go_region_with (go_at_call 103; refine HP.out.mono ?_; intro e w2 hp; obtain ⟨he, hA⟩ := HF.out e w2 hp; subst he)
    all_goals
      go_wp2
      go_meet
      exact ⟨rfl, hA⟩
  case rest =>
  obtain ⟨rfl, s0, hA0⟩ := hcut
  clear hbox0 hW0 HP HF c0 c1 c2
  go_wp2
  go_loopg [6, 7] (t1 t.size) (fun g pp hh wx => ∃ (h : Nat) (s' : SS) (lf : Array Value), g = t1 t.size - h ∧ pp = .int .u64 (t.s.n + h : Nat) ∧ hh = .int .i64 h ∧ ApI w wx b w.heap.size t (appV t.wd t.size t.s.view leaf) h s' lf)
  case atStart => exact ⟨0, s0, leaf, rfl, rfl, rfl, hA0⟩
  case round =>
    clear hA0
    obtain ⟨h, s', lf, hg, rfl, rfl, hA⟩ := hrel
    have c0 := blk_cell hA.tr.mem 0 rfl
    have c1 := blk_cell hA.tr.mem 1 rfl
    have c2 := blk_cell hA.tr.mem 2 rfl
    have f2 := blk_frozen hA.tr.mem 2
    have hbr := blk_lt hA.tr.mem
    simp only at c0 c1 c2
    have hd : (t.size : Int) / 2 ^ h = ((t.size / 2 ^ h : Nat) : Int) := by rw [← pow_i]; simp
    have hdl : t.size / 2 ^ h ≤ t.size := Nat.div_le_self _ _
    by_cases hlt : h < t1 t.size
    · have hlt' : h < t1 t.size := hlt
      have hbt : (bits BinOp.and IntKind.u64 ((t.size / 2 ^ h : Nat) : Int) 1 == 1) = true := by rw [and1 _ (by omega), beq_iff_eq, t1_bit _ _ hlt']; rfl
      have hm := fun W => mask_calls (h + 1) (by omega) (by omega) W
      rw [show ((h + 1 : Nat) : Int) = (h : Int) + 1 from by omega] at hm
      have hp1 := Nat.pow_le_pow_right (show 0 < 2 from by omega) (show h + 1 ≤ t1 t.size from hlt')
      have hp2 := t1_pow_le t.size
      have hng2 : t.size ≤ t.s.n := by rw [HN.out]; exact hng
      have hnb2 : t.s.n ≤ 2 * t.size := by rw [HN.out]; exact hnb
      have hmk : 2 ^ (h + 1) - 1 ≤ t.s.n + h := by omega
      have hpl : t.s.n + h < 9223372036854775808 := by
        have h1 := nodes_succ t.size
        have h2 := nodes_mono (show t.size + 1 ≤ 2 ^ 62 from hsz)
        rw [nodes_pow0] at h2
        have h3 : (2 : Nat) ^ (62 + 1) = 9223372036854775808 := by decide
        rw [HN.out]
        omega
      have hsn := hA.n
      have hget := fun (W : World) (hc : Chg [] wr W) => get_calls t.sb (t.s.n + h - (2 ^ (h + 1) - 1)) s' W (hA.tr.st.chg0 hc) (by omega)
      have hgi := IsHash.getH hA.tr.st (t.s.n + h - (2 ^ (h + 1) - 1))
      have hx : nodeA t.wd (s'.view.get (s'.view.n - 1 - (2 ^ (h + 1) - 1))) lf = nodeA t.wd (s'.getH (t.s.n + h - (2 ^ (h + 1) - 1))) lf := by
        rw [view_get, show s'.view.n = t.s.n + 1 + h from hsn, show t.s.n + 1 + h - 1 = t.s.n + h from by omega]
      have q1 : IntKind.i64.wrap ((h : Int) + 1) = (h : Int) + 1 := IntWalk.i64_in _ (by omega)
      have HX : Shut _ := ⟨hx⟩
      have HG := Lib.hid hg
      have HA := Lib.hid hA
      have hLb := blk_lt hA.box
      clear hx hp1 hp2 hsn hg hA hng2 hnb2
      generalize hmke : 2 ^ (h + 1) - 1 = mk at *
      have HMK : Shut (2 ^ (h + 1) - 1 = mk) := ⟨hmke⟩
      generalize t.size / 2 ^ h = sh at *
      generalize hPe : t.s.n + h = P at *
      have HPE : Shut (t.s.n + h = P) := ⟨hPe⟩
      clear hmke hPe
      have q2 : IntKind.u64.wrap ((P : Int) - (mk : Int)) = ((P - mk : Nat) : Int) := by rw [IntKind.wrap_u64]; omega
      generalize P - mk = q at *
      generalize s'.getH q = H at *
      generalize s'.getE q = E at *
      have hH1 := hgi.1
      have hH2 := hgi.one
      go_upto_region 8 with (fail)
      go_cut [8, 9] from 30 to 42 (fun v8 v9 wx => GetA wr w.heap.size H v8 wx)
      case first =>
        go_region_with (first
          | (go_at_call 105; refine (hm _).mono ?_; rintro e w1 ⟨rfl, hw1⟩; subst hw1)
          | (go_at_call 104; (with_reducible refine (hget _ (Chg.refl _ _).drew).mono ?_); rintro e w3 ⟨rfl, hc3⟩; have hC3 : Chg [] wr w3 := ((Chg.refl [] wr).drew).nil_trans hc3)
          | (go_at_call 104; (with_reducible refine (hget _ ((Chg.refl _ _).alloc _).drew).mono ?_); rintro e w3 ⟨rfl, hc3⟩; have hC3 : Chg [] wr w3 := (((Chg.refl [] wr).alloc _).drew).nil_trans hc3; have hm3 : may w3 wr.heap.size 0 32 = true := may_chg hc3 (show may ((wr.alloc (.cells zeroHash 36)).drew) wr.heap.size 0 32 = true from may_alloc_at wr _ 32 zeroHash 36 rfl zeroHash_size) (by omega) (by simp)))
        all_goals
          go_wp2
          go_meet
          first
            | exact ⟨_, rfl, hC3.alloc _, rng?_alloc_at _ _ _ _ _ rfl hH1, by have := hC3.size; omega⟩
            | exact ⟨_, rfl, hC3.setRng (.inr (Nat.le_refl _)) _ _, rng?_setRng_same _ _ _ _ _ hm3 hH1, by omega⟩
            | exact ⟨_, rfl, (hC3.alloc _).drew, rng?_alloc_at _ _ _ _ _ rfl hH1, by have := hC3.size; omega⟩
            | exact ⟨_, rfl, hC3.drew.alloc _, rng?_alloc_at _ _ _ _ _ rfl hH1, by have := hC3.size; omega⟩
      case rest =>
      obtain ⟨g8, rfl, hC8, hr8, hg8⟩ := hcut
      clear q1 q2 hm hget hmk hd hdl hbt
      have hAW := HA.out.tr.chg0 hC8
      have d0 := blk_cell hAW.mem 0 rfl
      have d1 := blk_cell hAW.mem 1 rfl
      simp only at d0 d1
      have hbox8 := hC8.at HA.out.box (by simp)
      have hlr := hash_rng' hbox8 HA.out.lh.1
      have hl8 := World.block_lt_of_cell? _ _ ((rng?_cell hr8).2 0 (by omega))
      have hl9 := blk_lt hbox8
      have hlf := HA.out.lh
      have hxi := nodeA_is t.wd hgi hlf
      have hk8 : HIs wc := hk.chg (HA.out.chg.trans hC8 (by simp)) (fun hm => absurd (ht.low _ hm).1 (Nat.lt_irrefl _)) (fun hm => absurd (ht.low _ hm).2 (Nat.lt_irrefl _))
      have hno := fun (W : World) (hc : Chg [] wc W) => nodeA_calls W t.wd hgi hlf (hk8.chg0 hc)
      go_upto_region 9 with (fail)
      go_cut [] from 43 to 49 (fun wx => NodeB wr w.heap.size (nodeA t.wd H lf) wx)
      case first =>
        have hx1 := hxi.1
        have hx2 := hxi.one
        generalize nodeA t.wd H lf = x at *
        have hlf1 := hlf.1
        have hm9 := fun (W : World) (hc : Chg [] wc W) => may_row (o := 0) (n := 32) (hc.at hbox8 (by simp)) (by rw [hlf1]; omega)
        go_region_with (go_at_call 79; (with_reducible refine (hno _ (Chg.refl _ _).drew).mono ?_); rintro e w3 ⟨rfl, hc3⟩; have hC3 : Chg [] wc w3 := ((Chg.refl [] wc).drew).nil_trans hc3; have hm3 := hm9 _ hC3)
        all_goals
          go_wp2
          go_meet
          exact ⟨((hC8.of_nil.nil_trans hC3).setRng (by simp) _ _), box_set (hC3.at hbox8 (by simp)) hlf1 hx1⟩
      case rest =>
      obtain ⟨hW, hbx⟩ := hcut
      clear d0 d1 hbox8 hlr hl8 hl9 hk8 hno hAW hC8 hr8
      have hxe : nodeA t.wd H lf = nodeA t.wd (s'.view.get (s'.view.n - 1 - (2 ^ (h + 1) - 1))) lf := by rw [HMK.out]; exact HX.out.symm
      have hsn := HA.out.n
      have hal := HA.out.al
      have hPl := HPE.out
      have hWd : Chg [w.heap.size] wr wc.drew := hW.drew
      have ht9 : TrIs wc.drew b { t with s := s' } := HA.out.tr.chg hWd (fun k hk hm => HA.out.Lf (by simp at hm; subst hm; exact hk))
      have hpush := push_calls t.sb s' (nodeA t.wd H lf) wc.drew ht9.st hxi (by omega) (by omega)
      have hnext := fun (e : Ending) (w2 : World) (hp : PushP wc.drew t.sb s' (nodeA t.wd H lf) e w2) => ApI.next HA.out hlt' hWd (blk_drew hbx) hxe hxi hp
      have d0 := blk_cell (w := wc) ht9.mem 0 rfl
      simp only at d0
      have hlr := hash_rng' hbx hxi.1
      have hbc : b < wc.heap.size := blk_lt (w := wc) ht9.mem
      have hlc := blk_lt hbx
      have HP := Lib.hid hpush
      have HNX := Lib.hid hnext
      have HSN := Lib.hid hsn
      clear hpush hnext hsn hal hPl hxe ht9 hbx hWd hW
      generalize nodeA t.wd H lf = x at *
      go_upto_region 10 with (fail)
      go_region_with (go_at_call 103; refine HP.out.mono ?_; intro e w2 hp; obtain ⟨he, hA2⟩ := HNX.out e w2 hp; subst he)
      all_goals
        go_wp2
        go_roundg (t1 t.size - (h + 1))
        case measure => rw [HG.out]; omega
        case rel =>
          obtain ⟨s2, hA3⟩ := hA2
          exact ⟨h + 1, s2, x, rfl, by rw [HSN.out]; congr 2; omega, by go_num, hA3⟩
    · have hh : h = t1 t.size := by have := hA.h; omega
      subst hh
      have hbt : (bits BinOp.and IntKind.u64 ((t.size / 2 ^ t1 t.size : Nat) : Int) 1 == 1) = false := by rw [and1 _ (by omega), hll]; rfl
      have hlast := hA.last rfl
      rw [show ((t.size + 1 : Nat) : Int) = (t.size : Int) + 1 from by omega] at hlast
      have HLA := Lib.hid hlast
      clear hlast hA hg hll
      generalize t.size / 2 ^ t1 t.size = sh at *
      go_wp2
      go_ret
      exact HLA.out
end Go.Proofs.YtpklkefnmoaaaaaGreatDoor

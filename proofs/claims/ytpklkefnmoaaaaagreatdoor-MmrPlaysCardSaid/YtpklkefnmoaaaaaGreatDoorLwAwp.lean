/- Texts put into one by pack.py: LwAw. -/
import Derived.Deep.RegionHeld3
import Derived.Deep.MidRow
import Derived.Test.YtpklkefnmoaaaaaGreatDoorPkH
/- awake of the trees' statements: three leaves. -/
namespace Go.Proofs.YtpklkefnmoaaaaaGreatDoor
open Go.RowKit
set_option linter.unusedVariables false
set_option linter.unusedSimpArgs false

theorem t1_0 : t1 0 = 0 := t1_even 0
theorem t1_1 : t1 1 = 1 := by have := t1_odd 0; rw [t1_0] at this; simpa using this
theorem t1_2 : t1 2 = 0 := t1_even 1
theorem peaks_3 : peaksN 3 = [2, 3] := by
  have e1 : pk 3 1 = 2 := by
    show nodesN (3 / 2 ^ 1 * 2 ^ 1 - 1) + 1 = 2
    rw [show 3 / 2 ^ 1 * 2 ^ 1 - 1 = 0 + 1 from rfl, nodes_succ, nodes_zero, t1_0]
  have e0 : pk 3 0 = 3 := by
    show nodesN (3 / 2 ^ 0 * 2 ^ 0 - 1) + 0 = 3
    rw [show 3 / 2 ^ 0 * 2 ^ 0 - 1 = 0 + 1 + 1 from rfl, nodes_succ, nodes_succ, nodes_zero, t1_0, t1_1]
  have ef : ((List.range 63).map (62 - ·)).filter (fun h => 3 / 2 ^ h % 2 == 1) = [1, 0] := by decide +kernel
  unfold peaksN pkL
  rw [ef]
  simp [e1, e0]
theorem hA_is : IsHash (hash1 1) := hash1_is (by omega) (by omega)
theorem hB_is : IsHash (hash1 2) := hash1_is (by omega) (by omega)
theorem hC_is : IsHash (hash1 3) := hash1_is (by omega) (by omega)
@[go_sem] theorem h1_size (n : Int) : (hash1 n).size = 32 := hash1_size n
@[go_sem] theorem h1_o1 : one1 (hash1 1) = true := hA_is.one
@[go_sem] theorem h1_o2 : one1 (hash1 2) = true := hB_is.one
@[go_sem] theorem h1_o3 : one1 (hash1 3) = true := hC_is.one
/-- Three leaves appended. -/
theorem three {s0 s1 s2 s3 : NV} (h0 : s0.n = 0) (h1 : s1 = appV 32 0 s0 (hash1 1)) (h2 : s2 = appV 32 1 s1 (hash1 2)) (h3 : s3 = appV 32 2 s2 (hash1 3)) : s3.get 2 = nodeA 32 (hash1 1) (hash1 2) ∧ s3.get 3 = (hash1 3) ∧ s3.n = 4 := by
  obtain ⟨n0, nd⟩ := s0
  simp only at h0
  subst h0
  subst h1 h2 h3
  unfold appV
  rw [t1_0, t1_1, t1_2]
  simp [climb, NV.push, NV.get]
def Leaves3 (w1 : World) (v3 v4 v5 : Value) (wx : World) : Prop := ∃ g3 g4 g5, v3 = .pointer (some ⟨g3, 0, none⟩) ∧ v4 = .pointer (some ⟨g4, 0, none⟩) ∧ v5 = .pointer (some ⟨g5, 0, none⟩) ∧ rng? wx g3 0 32 = some (hash1 1) ∧ rng? wx g4 0 32 = some (hash1 2) ∧ rng? wx g5 0 32 = some (hash1 3) ∧ Chg [] w1 wx ∧ w1.heap.size ≤ g3 ∧ w1.heap.size ≤ g4 ∧ w1.heap.size ≤ g5
theorem tSize_same (w : World) (b : Nat) (t : TS) (ht : TrIs w b t) : Calls Tryz.prog 37 #[.pointer (some ⟨b, 0, none⟩)] w fun e w' => e = .returned (.int .u64 t.size) ∧ w' = w := by
  have c2 := blk_cell ht.mem 2 rfl
  have hb := blk_lt ht.mem
  go_enter Tryz.func37, Tryz.ntmps37
  go_wp2
  go_ret
  exact ⟨rfl, rfl⟩
structure AwI (w wx : World) (b : Nat) (t : TS) (g3 g4 g5 : Nat) : Prop where
  tr : TrIs wx b t
  full : TFull t
  chg : Chg [] w wx
  r3 : rng? wx g3 0 32 = some (hash1 1)
  r4 : rng? wx g4 0 32 = some (hash1 2)
  r5 : rng? wx g5 0 32 = some (hash1 3)
  foot : ∀ k ∈ t.foot b, k ≠ g3 ∧ k ≠ g4 ∧ k ≠ g5 ∧ w.heap.size ≤ k
  wd : t.wd = 32
theorem AwI.lt {w wx : World} {b : Nat} {t : TS} {g3 g4 g5 : Nat} (h : AwI w wx b t g3 g4 g5) : g3 < wx.heap.size ∧ g4 < wx.heap.size ∧ g5 < wx.heap.size :=
  ⟨World.block_lt_of_cell? _ _ ((rng?_cell h.r3).2 0 (by rw [(rng?_cell h.r3).1]; omega)), World.block_lt_of_cell? _ _ ((rng?_cell h.r4).2 0 (by rw [(rng?_cell h.r4).1]; omega)), World.block_lt_of_cell? _ _ ((rng?_cell h.r5).2 0 (by rw [(rng?_cell h.r5).1]; omega))⟩
theorem AwI.chg0 {w wx wy : World} {b : Nat} {t : TS} {g3 g4 g5 : Nat} (h : AwI w wx b t g3 g4 g5) (hc : Chg [] wx wy) : AwI w wy b t g3 g4 g5 :=
  ⟨h.tr.chg0 hc, h.full, h.chg.nil_trans hc, rng?_chg hc h.r3 (by omega) (by simp), rng?_chg hc h.r4 (by omega) (by simp), rng?_chg hc h.r5 (by omega) (by simp), h.foot, h.wd⟩
theorem AwI.app {w wx w2 : World} {b : Nat} {t : TS} {g3 g4 g5 : Nat} {x : Array Value} {e : Ending} (h : AwI w wx b t g3 g4 g5) (ha : AppP wx b t x e w2) :
    e = .returned (.int .u64 t.size) ∧ ∃ t', AwI w w2 b t' g3 g4 g5 ∧ t'.size = t.size + 1 ∧ t'.s.view = appV 32 t.size t.s.view x := by
  obtain ⟨he, t', h1, h2, h3, h4, h5, h6, h7, h8, h9, h10, h11⟩ := ha
  obtain ⟨l3, l4, l5⟩ := h.lt
  have hs := h.chg.size
  refine ⟨he, t', ⟨h1, h.full.app h4 h5 h6 h7, h.chg.trans h10 (fun k hk => .inr (h.foot k hk).2.2.2), rng?_chg h10 h.r3 (by omega) (fun hm => (h.foot _ hm).1 rfl), rng?_chg h10 h.r4 (by omega) (fun hm => (h.foot _ hm).2.1 rfl), rng?_chg h10 h.r5 (by omega) (fun hm => (h.foot _ hm).2.2.1 rfl), ?_, by rw [h3, h.wd]⟩, h4, by rw [h5, h.wd]⟩
  intro k hk
  rcases h11 k hk with q | q
  · exact h.foot k q
  · refine ⟨by omega, by omega, by omega, by omega⟩
theorem AwI.call {w wx : World} {b : Nat} {t : TS} {g3 g4 g5 : Nat} {x : Array Value} (h : AwI w wx b t g3 g4 g5) (hk : HIs w) (hx : IsHash x) (hs : t.size ≤ 3) : Calls Tryz.prog 21 #[.pointer (some ⟨b, 0, none⟩), .agg x] wx fun e w2 =>
    e = .returned (.int .u64 t.size) ∧ ∃ t', AwI w w2 b t' g3 g4 g5 ∧ t'.size = t.size + 1 ∧ t'.s.view = appV 32 t.size t.s.view x := by
  have hn := nodes_le t.size
  have hf := h.full.n
  have ha := h.full.al
  exact (append_calls wx b t x h.tr hx (hk.chg0 h.chg) (by omega) h.full.n (by omega)).mono fun e w2 hp => h.app hp
set_option maxRecDepth 100000 in
set_option maxHeartbeats 8000000 in
theorem awake_calls (w : World) (hk : HIs w) : Calls Tryz.prog 15 #[] w (Res w [] (.bool true)) := by
  have hnew := tnew_ok w 32 (by omega) 2 (by omega) hk
  rw [show ((2 : Nat) : Int) = 2 from rfl] at hnew
  go_enter Tryz.func15, Tryz.ntmps15
  go_upto_region 4 with (go_at_call 13; refine hnew.mono ?_; rintro e w1 ⟨b, t, rfl, h1, h2, h3, h4, h5, h6, h7, h8, h9⟩)
  clear hnew
  go_cut [3, 4, 5] from 20 to 22 (fun v3 v4 v5 wx => Leaves3 w1 v3 v4 v5 wx)
  case first =>
    iterate 20 go_step
    have m3 : may (((w1.alloc (.cells zeroHash 36)).alloc (.cells zeroHash 36)).alloc (.cells zeroHash 36)) w1.heap.size 0 32 = true :=
      may_chg (((Chg.refl [] _).alloc _).alloc _) (may_alloc_at w1 w1.heap.size 32 zeroHash 36 rfl zeroHash_size) (by omega) (by simp)
    have m4 : may (((w1.alloc (.cells zeroHash 36)).alloc (.cells zeroHash 36)).alloc (.cells zeroHash 36)) (w1.heap.size + 1) 0 32 = true := by
      have := may_alloc_at (w1.alloc (.cells zeroHash 36)) _ 32 zeroHash 36 rfl zeroHash_size
      rw [World.size_alloc] at this
      exact may_chg ((Chg.refl [] _).alloc _) this (by omega) (by simp)
    have m5 : may (((w1.alloc (.cells zeroHash 36)).alloc (.cells zeroHash 36)).alloc (.cells zeroHash 36)) (w1.heap.size + 1 + 1) 0 32 = true := by
      have := may_alloc_at ((w1.alloc (.cells zeroHash 36)).alloc (.cells zeroHash 36)) _ 32 zeroHash 36 rfl zeroHash_size
      rw [World.size_alloc, World.size_alloc] at this
      exact this
    have hz : Chg [] w1 (((w1.alloc (.cells zeroHash 36)).alloc (.cells zeroHash 36)).alloc (.cells zeroHash 36)) := (((Chg.refl _ _).alloc _).alloc _).alloc _
    have hzs : (((w1.alloc (.cells zeroHash 36)).alloc (.cells zeroHash 36)).alloc (.cells zeroHash 36)).heap.size = w1.heap.size + 3 := by simp
    have HZ := Lib.hid hzs
    clear hzs h4 h5 h6 h7 h8 h9
    generalize ((w1.alloc (.cells zeroHash 36)).alloc (.cells zeroHash 36)).alloc (.cells zeroHash 36) = wz at *
    go_wp2
    go_meet
    have q1 := rng?_setRng_same wz w1.heap.size 0 32 (hash1 1) m3 (hash1_size 1)
    have q2 := rng?_setRng_same (setRng wz w1.heap.size 0 (hash1 1)) (w1.heap.size + 1) 0 32 (hash1 2) (may_setRng _ _ _ _ _ _ _ m4) (hash1_size 2)
    have q3 := rng?_setRng_same (setRng (setRng wz w1.heap.size 0 (hash1 1)) (w1.heap.size + 1) 0 (hash1 2)) (w1.heap.size + 1 + 1) 0 32 (hash1 3) (may_setRng _ _ _ _ _ _ _ (may_setRng _ _ _ _ _ _ _ m5)) (hash1_size 3)
    exact ⟨_, _, _, rfl, rfl, rfl, (rng?_setRng_other _ _ _ _ _ _ _ (by omega)).trans ((rng?_setRng_other _ _ _ _ _ _ _ (by omega)).trans q1), (rng?_setRng_other _ _ _ _ _ _ _ (by omega)).trans q2, q3,
      ((hz.setRng (.inr (by omega)) _ _).setRng (.inr (by omega)) _ _).setRng (.inr (by omega)) _ _, by omega, by omega, by omega⟩
  case rest =>
  obtain ⟨g3, g4, g5, rfl, rfl, rfl, r3, r4, r5, hcl, l3, l4, l5⟩ := hcut
  have hI : AwI w wc b t g3 g4 g5 := ⟨h1.chg0 hcl, TFull.zero h5 h6 h7, h2.nil_trans hcl, r3, r4, r5, fun k hk => by have := h1.lt k hk; have := h3 k hk; refine ⟨?_, ?_, ?_, ?_⟩ <;> omega, by rw [h4]; decide⟩
  have hv0 : t.s.view.n = 0 := h6
  have hc1 := hI.call hk hA_is (by omega)
  rw [h5] at hc1
  have hl := hI.lt
  have HC1 := Lib.hid hc1
  have H0 := Lib.hid hv0
  have HI := Lib.hid hI
  clear hc1 hv0 hI h1 h2 h3 h4 h5 h6 h7 h8 h9 hcl l3 l4 l5 r4 r5
  obtain ⟨k3, k4, k5⟩ := hl
  go_wp2_with (fail)
  go_at_call 21
  refine HC1.out.mono ?_
  rintro e wa ⟨rfl, ta, hIa, sa, va⟩
  rw [show (0 : Nat) + 1 = 1 from rfl] at sa
  have hc2 := hIa.call hk hB_is (by omega)
  rw [sa] at hc2
  have ra := hIa.r4
  obtain ⟨k3a, k4a, k5a⟩ := hIa.lt
  have HC2 := Lib.hid hc2
  have HIa := Lib.hid hIa
  have SA := Lib.hid sa
  have VA := Lib.hid va
  clear hc2 hIa sa va r3
  go_wp2_with (fail)
  go_at_call 21
  refine HC2.out.mono ?_
  rintro e wb ⟨rfl, tb, hIb, sb, vb⟩
  rw [show 1 + 1 = 2 from rfl] at sb
  have hc3 := hIb.call hk hC_is (by omega)
  rw [sb] at hc3
  have rb := hIb.r5
  obtain ⟨k3b, k4b, k5b⟩ := hIb.lt
  have HC3 := Lib.hid hc3
  have HIb := Lib.hid hIb
  have SB := Lib.hid sb
  have VB := Lib.hid vb
  clear hc3 hIb sb vb ra
  go_wp2_with (fail)
  go_at_call 21
  refine HC3.out.mono ?_
  rintro e wd ⟨rfl, td, hId, sd, vd⟩
  rw [show 2 + 1 = 3 from rfl] at sd
  have VD := Lib.hid vd
  have SD := Lib.hid sd
  have HId := Lib.hid hId
  obtain ⟨k3d, k4d, k5d⟩ := hId.lt
  have hpk := tPeaks_calls wd b td hId.tr (by omega)
  have hth := three H0.out VA.out VB.out vd
  rw [view_get, view_get] at hth
  have hpo : PeaksOf td.s (peaksN td.size) = [nodeA 32 (hash1 1) (hash1 2), hash1 3] := by
    unfold PeaksOf
    rw [if_pos (hId.full.peaksE (Nat.le_refl _)), sd, peaks_3]
    simp [hth.1, hth.2.1]
  rw [hpo] at hpk
  have HPK := Lib.hid hpk
  have HTH := Lib.hid hth
  clear rb vd sd hId hpk hpo hth
  go_wp2_with (fail)
  go_at_call 48
  refine HPK.out.mono ?_
  rintro e we ⟨pv, rfl, hpo, hce⟩
  obtain ⟨hpi, pa, pcap, rfl, hpr⟩ := hpo.hs
  rcases hpr with hpr | ⟨pb, po, rfl, hpb, hpr⟩
  · simp at hpr
  have p0 := hpr 0 (by simp)
  have p1 := hpr 1 (by simp)
  simp only [List.getElem_cons_zero, List.getElem_cons_succ] at p0 p1
  have hIe := HId.out.chg0 hce
  have hPi := nodeA_is 32 hA_is hB_is
  have hno := tNode_calls we b 2 td hIe.tr (by omega)
  have hE2 : td.s.getE 2 = 0 := HId.out.full.getE (by have := HTH.out.2.2; show 2 < td.s.view.n; omega)
  rw [HTH.out.1, hE2] at hno
  rw [show ((2 : Nat) : Int) = 2 from rfl] at hno
  have HNO := Lib.hid hno
  have HIe := Lib.hid hIe
  have hP1 := hPi.1
  have hP2 := hPi.one
  clear hpo hpr hce hpi hno hIe hE2
  simp only [List.length_cons, List.length_nil]
  generalize hPP : nodeA 32 (hash1 1) (hash1 2) = P at *
  have HPP : Shut (nodeA 32 (hash1 1) (hash1 2) = P) := ⟨hPP⟩
  clear hPP
  go_upto_region 9 with (go_at_call 50; refine HNO.out.mono ?_; rintro e wf ⟨rfl, hcf⟩)
  have hIf : AwI w (wf.alloc (.cells P 36)) b td g3 g4 g5 := HIe.out.chg0 (hcf.alloc _)
  have p0f := rng?_chg (hcf.alloc (.cells P 36)) p0 (by omega) (by simp)
  have p1f := rng?_chg (hcf.alloc (.cells P 36)) p1 (by omega) (by simp)
  have r7f := rng?_alloc_at wf wf.heap.size 32 P 36 rfl hP1
  have hnd := nodeA_calls (wf.alloc (.cells P 36)) 32 hA_is hB_is (hk.chg0 hIf.chg)
  rw [HPP.out] at hnd
  have s3 := hIf.r3
  have s4 := hIf.r4
  obtain ⟨m3, m4, m5⟩ := hIf.lt
  have HIf := Lib.hid hIf
  have HND := Lib.hid hnd
  clear hIf hnd hcf p0 p1
  generalize wf.alloc (.cells P 36) = wg at *
  generalize wf.heap.size = g7 at *
  go_upto_region 10 with (go_at_call 79; refine HND.out.mono ?_; rintro e wh ⟨rfl, hch⟩)
  have hIh : AwI w (wh.alloc (.cells P 36)) b td g3 g4 g5 := HIf.out.chg0 (hch.alloc _)
  have p0h := rng?_chg (hch.alloc (.cells P 36)) p0f (by omega) (by simp)
  have p1h := rng?_chg (hch.alloc (.cells P 36)) p1f (by omega) (by simp)
  have r7h := rng?_chg (hch.alloc (.cells P 36)) r7f (by omega) (by simp)
  have r9h := rng?_alloc_at wh wh.heap.size 32 P 36 rfl hP1
  clear p0f p1f r7f hch s3 s4 m3 m4 m5
  generalize wh.alloc (.cells P 36) = wi at *
  generalize wh.heap.size = g9 at *
  rw [Nat.zero_mul, Nat.add_zero] at p0h
  rw [Nat.one_mul] at p1h
  have hlt9 : g9 < wi.heap.size := World.block_lt_of_cell? _ _ ((rng?_cell r9h).2 0 (by omega))
  have hlt7 : g7 < wi.heap.size := World.block_lt_of_cell? _ _ ((rng?_cell r7h).2 0 (by omega))
  have hltb : pb < wi.heap.size := World.block_lt_of_cell? _ _ ((rng?_cell p0h).2 0 (by omega))
  obtain ⟨_, _, hlt5⟩ := hIh.lt
  have hS : ∀ W : World, Chg [] wi W → rng? W g9 0 32 = some P ∧ rng? W g5 0 32 = some (hash1 3) ∧ rng? W g7 0 32 = some P ∧ rng? W pb po 32 = some P ∧ rng? W pb (po + 32) 32 = some (hash1 3) ∧ g9 < W.heap.size ∧ g5 < W.heap.size ∧ g7 < W.heap.size ∧ pb < W.heap.size := fun W hc =>
    ⟨rng?_chg hc r9h (by omega) (by simp), rng?_chg hc hIh.r5 (by omega) (by simp), rng?_chg hc r7h (by omega) (by simp), rng?_chg hc p0h (by omega) (by simp), rng?_chg hc p1h (by omega) (by simp), by have := hc.size; omega, by have := hc.size; omega, by have := hc.size; omega, by have := hc.size; omega⟩
  have hsz := fun (W : World) (hc : Chg [] wi W) => tSize_same W b td (hIh.tr.chg0 hc)
  rw [SD.out] at hsz
  rw [show ((3 : Nat) : Int) = 3 from rfl] at hsz
  have hrt := fun (W : World) (hc : Chg [] wi W) => tRoot_calls W b td (hIh.tr.chg0 hc) (by rw [SD.out]; omega) (hk.chg0 (hIh.chg.nil_trans hc))
  have hroot : td.root = rootA 32 3 (foldA 32 P (hash1 3)) := by
    rw [hIh.full.root, SD.out]
    unfold rootAt
    rw [peaks_3, hIh.wd]
    simp only [List.map_cons, List.map_nil, HTH.out.1, HTH.out.2.1]
    unfold bagR
    rw [if_pos (by have := peaks_length 3 (by decide); rw [peaks_3] at this; exact this)]
    rfl
  rw [hroot] at hrt
  have hFi := foldA_is 32 hPi hC_is
  have hXi := rootA_is 32 3 hFi
  have hfo := fun (W : World) (hc : Chg [] wi W) => foldA_calls W 32 hPi hC_is (hk.chg0 (hIh.chg.nil_trans hc))
  have hro := fun (W : World) (hc : Chg [] wi W) => rootA_calls W 32 3 (by omega) hFi (hk.chg0 (hIh.chg.nil_trans hc))
  rw [show ((3 : Nat) : Int) = 3 from rfl] at hro
  generalize rootA 32 3 (foldA 32 P (hash1 3)) = X at *
  generalize foldA 32 P (hash1 3) = F at *
  obtain ⟨pl, hpl⟩ : ∃ pl : List Value, P = pl.toArray := ⟨P.toList, Array.toArray_toList.symm⟩
  have i3 := hC_is
  generalize hash1 3 = c3 at *
  obtain ⟨cl, hcl3⟩ : ∃ cl : List Value, c3 = cl.toArray := ⟨c3.toList, Array.toArray_toList.symm⟩
  subst hpl hcl3
  have q1 : eqH pl.toArray pl.toArray = true := eqH_self
  have q2 : eqH cl.toArray cl.toArray = true := eqH_self
  have q3 : eqH X X = true := eqH_self
  have z3 := i3.1
  have o3 := i3.one
  have hF1 := hFi.1
  have hX1 := hXi.1
  have hoX := hXi.one
  have hoF := hFi.one
  have HSZ := Lib.hid hsz
  have HRT := Lib.hid hrt
  have HFO := Lib.hid hfo
  have HRO := Lib.hid hro
  have HCH := Lib.hid hIh.chg
  have hS2 : ∀ W : World, Chg [] wi W → W.rangeAt g9 0 pl ∧ W.rangeAt g5 0 cl ∧ W.rangeAt g7 0 pl ∧ W.rangeAt pb po pl ∧ W.rangeAt pb (po + 32) cl := fun W hc => by
    obtain ⟨a1, a2, a3, a4, a5, _⟩ := hS W hc
    exact ⟨rng?_range a1, rng?_range a2, rng?_range a3, rng?_range a4, rng?_range a5⟩
  have hu1 : Tryz.prog.underlying 36 = _ := u_Hash
  have hi1 : (Tryz.prog.info? 36).map (·.size) = some pl.length := by rw [show pl.length = 32 from by simpa using hP1]; kernel_rfl
  have hi2 : (Tryz.prog.info? 36).map (·.size) = some cl.length := by rw [show cl.length = 32 from by simpa using z3]; kernel_rfl
  clear hS hsz hrt hfo hro hIh hroot p0h p1h r7h r9h hlt9 hlt7 hltb hlt5
  refine wp_region_noPanic ?_
  refine wp_region_held_drew (S := (fun W => W.rangeAt g9 0 pl ∧ W.rangeAt g5 0 cl ∧ W.rangeAt g7 0 pl ∧ W.rangeAt pb po pl ∧ W.rangeAt pb (po + 32) cl)) (by kernel_rfl) (by first | exact hS2 _ (by assumption) | exact hS2 _ (Chg.refl _ _).drew) (fun hHeld => ?_)
  refine wpAnyH_take (i := 0) (v := ?_) rfl (by kernel_rfl) (by kernel_rfl) (by kernel_rfl) (fun _ _ _ h => h) (Or.inl ⟨by rfl, ?_⟩) (by assumption) ?_
  rotate_left
  · intro w hSw
    (try dsimp only at hSw)
    go_simp
    try with_reducible rfl
  try simp only [List.getElem_toArray, List.getElem_cons_zero, List.getElem_cons_succ, Act.put, List.setIfInBounds_toArray, List.set_cons_zero, List.set_cons_succ]
  refine wpAnyH_ready (rs := [1]) (by kernel_rfl) (by simp) ?_
  refine AllReadyH.cons rfl (fun K hK => ?_) ?_
  go_simp
  go_at_call 37; refine (HSZ.out _ (by first | assumption | exact (Chg.refl _ _).drew)).mono ?_; rintro e wj ⟨rfl, hwj⟩; subst hwj
  go_wp2_with fail
  refine hK.out _ _ (by first | exact hS2 _ (by assumption) | exact hS2 _ (Chg.refl _ _).drew) (fun hHeld => ?_)
  clear hK K
  try simp only [List.getElem_toArray, List.getElem_cons_zero, List.getElem_cons_succ, Act.put, List.setIfInBounds_toArray, List.set_cons_zero, List.set_cons_succ]
  rotate_left
  exact AllReadyH.nil
  refine wpAnyH_take (i := 2) (v := ?_) rfl (by kernel_rfl) (by kernel_rfl) (by kernel_rfl) (fun _ _ _ h => h) (Or.inl ⟨by rfl, ?_⟩) (by assumption) ?_
  rotate_left
  · intro w hSw
    (try dsimp only at hSw)
    go_simp
    try with_reducible rfl
  try simp only [List.getElem_toArray, List.getElem_cons_zero, List.getElem_cons_succ, Act.put, List.setIfInBounds_toArray, List.set_cons_zero, List.set_cons_succ]
  refine wpAnyH_take (i := 3) (v := ?_) rfl (by kernel_rfl) (by kernel_rfl) (by kernel_rfl) (fun _ _ _ h => h) (Or.inl ⟨by rfl, ?_⟩) (by assumption) ?_
  rotate_left
  · intro w hSw
    (try dsimp only at hSw)
    go_simp
    try with_reducible rfl
  try simp only [List.getElem_toArray, List.getElem_cons_zero, List.getElem_cons_succ, Act.put, List.setIfInBounds_toArray, List.set_cons_zero, List.set_cons_succ]
  refine wpAnyH_take (i := 4) (v := ?_) rfl (by kernel_rfl) (by kernel_rfl) (by kernel_rfl) (fun _ _ _ h => h) (Or.inl ⟨by rfl, ?_⟩) (by assumption) ?_
  rotate_left
  · intro w hSw
    (try dsimp only at hSw)
    go_simp
    try with_reducible rfl
  try simp only [List.getElem_toArray, List.getElem_cons_zero, List.getElem_cons_succ, Act.put, List.setIfInBounds_toArray, List.set_cons_zero, List.set_cons_succ]
  refine wpAnyH_take (i := 5) (v := ?_) rfl (by kernel_rfl) (by kernel_rfl) (by kernel_rfl) (fun _ _ _ h => h) (Or.inl ⟨by rfl, ?_⟩) (by assumption) ?_
  rotate_left
  · intro w hSw
    (try dsimp only at hSw)
    go_simp
    try with_reducible rfl
  try simp only [List.getElem_toArray, List.getElem_cons_zero, List.getElem_cons_succ, Act.put, List.setIfInBounds_toArray, List.set_cons_zero, List.set_cons_succ]
  refine wpAnyH_take (i := 6) (v := ?_) rfl (by kernel_rfl) (by kernel_rfl) (by kernel_rfl) (fun _ _ _ h => h) (Or.inl ⟨by rfl, ?_⟩) (by assumption) ?_
  rotate_left
  · intro w hSw
    (try dsimp only at hSw)
    go_simp
    try with_reducible rfl
  try simp only [List.getElem_toArray, List.getElem_cons_zero, List.getElem_cons_succ, Act.put, List.setIfInBounds_toArray, List.set_cons_zero, List.set_cons_succ]
  refine wpAnyH_take (i := 7) (v := ?_) rfl (by kernel_rfl) (by kernel_rfl) (by kernel_rfl) (fun _ _ _ h => h) (Or.inl ⟨by rfl, ?_⟩) (by assumption) ?_
  rotate_left
  · intro w hSw
    (try dsimp only at hSw)
    go_simp
    try with_reducible rfl
  try simp only [List.getElem_toArray, List.getElem_cons_zero, List.getElem_cons_succ, Act.put, List.setIfInBounds_toArray, List.set_cons_zero, List.set_cons_succ]
  refine wpAnyH_take (i := 8) (v := ?_) rfl (by kernel_rfl) (by kernel_rfl) (by kernel_rfl) (fun _ _ _ h => h) (Or.inl ⟨by rfl, ?_⟩) (by assumption) ?_
  rotate_left
  · intro w hSw
    (try dsimp only at hSw)
    go_simp
    try with_reducible rfl
  try simp only [List.getElem_toArray, List.getElem_cons_zero, List.getElem_cons_succ, Act.put, List.setIfInBounds_toArray, List.set_cons_zero, List.set_cons_succ]
  refine wpAnyH_take (i := 9) (v := ?_) rfl (by kernel_rfl) (by kernel_rfl) (by kernel_rfl) (fun _ _ _ h => h) (Or.inl ⟨by rfl, ?_⟩) (by assumption) ?_
  rotate_left
  · intro w hSw
    (try dsimp only at hSw)
    go_simp
    try with_reducible rfl
  try simp only [List.getElem_toArray, List.getElem_cons_zero, List.getElem_cons_succ, Act.put, List.setIfInBounds_toArray, List.set_cons_zero, List.set_cons_succ]
  refine wpAnyH_take (i := 10) (v := ?_) rfl (by kernel_rfl) (by kernel_rfl) (by kernel_rfl) (fun _ _ _ h => h) (Or.inl ⟨by rfl, ?_⟩) (by assumption) ?_
  rotate_left
  · intro w hSw
    (try dsimp only at hSw)
    go_simp
    try with_reducible rfl
  try simp only [List.getElem_toArray, List.getElem_cons_zero, List.getElem_cons_succ, Act.put, List.setIfInBounds_toArray, List.set_cons_zero, List.set_cons_succ]
  refine' wpAnyH_take (i := 11) (v := _) rfl (by kernel_rfl) (by kernel_rfl) (by kernel_rfl) (fun _ _ _ h => h) (yieldsIf_load_mid (by rfl) _ _ rfl _ _ rfl _ _ ?hS11 ?hu11 ?hd11 ?hi11) (by assumption) ?rest11
  case hS11 => (intro w hSw; (try dsimp only at hSw); obtain ⟨_, _, _, _, _⟩ := hSw; assumption)
  case hu11 => assumption
  case hd11 => rfl
  case hi11 => assumption
  case' rest11 => skip
  try simp only [List.getElem_toArray, List.getElem_cons_zero, List.getElem_cons_succ, Act.put, List.setIfInBounds_toArray, List.set_cons_zero, List.set_cons_succ]
  refine' wpAnyH_take (i := 12) (v := _) rfl (by kernel_rfl) (by kernel_rfl) (by kernel_rfl) (fun _ _ _ h => h) (yieldsIf_load_mid (by rfl) _ _ rfl _ _ rfl _ _ ?hS12 ?hu12 ?hd12 ?hi12) (by assumption) ?rest12
  case hS12 => (intro w hSw; (try dsimp only at hSw); obtain ⟨_, _, _, _, _⟩ := hSw; assumption)
  case hu12 => assumption
  case hd12 => rfl
  case hi12 => assumption
  case' rest12 => skip
  try simp only [List.getElem_toArray, List.getElem_cons_zero, List.getElem_cons_succ, Act.put, List.setIfInBounds_toArray, List.set_cons_zero, List.set_cons_succ]
  refine wpAnyH_take (i := 13) (v := ?_) rfl (by kernel_rfl) (by kernel_rfl) (by kernel_rfl) (fun _ _ _ h => h) (Or.inl ⟨by rfl, ?_⟩) (by assumption) ?_
  rotate_left
  · intro w hSw
    (try dsimp only at hSw)
    go_simp
    try with_reducible rfl
  try simp only [List.getElem_toArray, List.getElem_cons_zero, List.getElem_cons_succ, Act.put, List.setIfInBounds_toArray, List.set_cons_zero, List.set_cons_succ]
  refine wpAnyH_take (i := 14) (v := ?_) rfl (by kernel_rfl) (by kernel_rfl) (by kernel_rfl) (fun _ _ _ h => h) (Or.inl ⟨by rfl, ?_⟩) (by assumption) ?_
  rotate_left
  · intro w hSw
    (try dsimp only at hSw)
    go_simp
    try with_reducible rfl
  try simp only [List.getElem_toArray, List.getElem_cons_zero, List.getElem_cons_succ, Act.put, List.setIfInBounds_toArray, List.set_cons_zero, List.set_cons_succ]
  refine wpAnyH_take (i := 15) (v := ?_) rfl (by kernel_rfl) (by kernel_rfl) (by kernel_rfl) (fun _ _ _ h => h) (Or.inl ⟨by rfl, ?_⟩) (by assumption) ?_
  rotate_left
  · intro w hSw
    (try dsimp only at hSw)
    go_simp
    try with_reducible rfl
  try simp only [List.getElem_toArray, List.getElem_cons_zero, List.getElem_cons_succ, Act.put, List.setIfInBounds_toArray, List.set_cons_zero, List.set_cons_succ]
  refine wpAnyH_take (i := 16) (v := ?_) rfl (by kernel_rfl) (by kernel_rfl) (by kernel_rfl) (fun _ _ _ h => h) (Or.inl ⟨by rfl, ?_⟩) (by assumption) ?_
  rotate_left
  · intro w hSw
    (try dsimp only at hSw)
    go_simp
    try with_reducible rfl
  try simp only [List.getElem_toArray, List.getElem_cons_zero, List.getElem_cons_succ, Act.put, List.setIfInBounds_toArray, List.set_cons_zero, List.set_cons_succ]
  refine wpAnyH_take (i := 17) (v := ?_) rfl (by kernel_rfl) (by kernel_rfl) (by kernel_rfl) (fun _ _ _ h => h) (Or.inl ⟨by rfl, ?_⟩) (by assumption) ?_
  rotate_left
  · intro w hSw
    (try dsimp only at hSw)
    go_simp
    try with_reducible rfl
  try simp only [List.getElem_toArray, List.getElem_cons_zero, List.getElem_cons_succ, Act.put, List.setIfInBounds_toArray, List.set_cons_zero, List.set_cons_succ]
  refine' wpAnyH_take (i := 18) (v := _) rfl (by kernel_rfl) (by kernel_rfl) (by kernel_rfl) (fun _ _ _ h => h) (yieldsIf_load_mid (by rfl) _ _ rfl _ _ rfl _ _ ?hS18 ?hu18 ?hd18 ?hi18) (by assumption) ?rest18
  case hS18 => (intro w hSw; (try dsimp only at hSw); obtain ⟨_, _, _, _, _⟩ := hSw; assumption)
  case hu18 => assumption
  case hd18 => rfl
  case hi18 => assumption
  case' rest18 => skip
  try simp only [List.getElem_toArray, List.getElem_cons_zero, List.getElem_cons_succ, Act.put, List.setIfInBounds_toArray, List.set_cons_zero, List.set_cons_succ]
  refine' wpAnyH_take (i := 19) (v := _) rfl (by kernel_rfl) (by kernel_rfl) (by kernel_rfl) (fun _ _ _ h => h) (yieldsIf_load_mid (by rfl) _ _ rfl _ _ rfl _ _ ?hS19 ?hu19 ?hd19 ?hi19) (by assumption) ?rest19
  case hS19 => (intro w hSw; (try dsimp only at hSw); obtain ⟨_, _, _, _, _⟩ := hSw; assumption)
  case hu19 => assumption
  case hd19 => rfl
  case hi19 => assumption
  case' rest19 => skip
  try simp only [List.getElem_toArray, List.getElem_cons_zero, List.getElem_cons_succ, Act.put, List.setIfInBounds_toArray, List.set_cons_zero, List.set_cons_succ]
  refine wpAnyH_take (i := 20) (v := ?_) rfl (by kernel_rfl) (by kernel_rfl) (by kernel_rfl) (fun _ _ _ h => h) (Or.inl ⟨by rfl, ?_⟩) (by assumption) ?_
  rotate_left
  · intro w hSw
    (try dsimp only at hSw)
    go_simp
    try with_reducible rfl
  try simp only [List.getElem_toArray, List.getElem_cons_zero, List.getElem_cons_succ, Act.put, List.setIfInBounds_toArray, List.set_cons_zero, List.set_cons_succ]
  refine wpAnyH_take (i := 21) (v := ?_) rfl (by kernel_rfl) (by kernel_rfl) (by kernel_rfl) (fun _ _ _ h => h) (Or.inl ⟨by rfl, ?_⟩) (by assumption) ?_
  rotate_left
  · intro w hSw
    (try dsimp only at hSw)
    go_simp
    try with_reducible rfl
  try simp only [List.getElem_toArray, List.getElem_cons_zero, List.getElem_cons_succ, Act.put, List.setIfInBounds_toArray, List.set_cons_zero, List.set_cons_succ]
  refine wpAnyH_take (i := 22) (v := ?_) rfl (by kernel_rfl) (by kernel_rfl) (by kernel_rfl) (fun _ _ _ h => h) (Or.inl ⟨by rfl, ?_⟩) (by assumption) ?_
  rotate_left
  · intro w hSw
    (try dsimp only at hSw)
    go_simp
    try with_reducible rfl
  try simp only [List.getElem_toArray, List.getElem_cons_zero, List.getElem_cons_succ, Act.put, List.setIfInBounds_toArray, List.set_cons_zero, List.set_cons_succ]
  refine' wpAnyH_take (i := 23) (v := _) rfl (by kernel_rfl) (by kernel_rfl) (by kernel_rfl) (fun _ _ _ h => h) (yieldsIf_load_mid (by rfl) _ _ rfl _ _ rfl _ _ ?hS23 ?hu23 ?hd23 ?hi23) (by assumption) ?rest23
  case hS23 => (intro w hSw; (try dsimp only at hSw); obtain ⟨_, _, _, _, _⟩ := hSw; assumption)
  case hu23 => assumption
  case hd23 => rfl
  case hi23 => assumption
  case' rest23 => skip
  try simp only [List.getElem_toArray, List.getElem_cons_zero, List.getElem_cons_succ, Act.put, List.setIfInBounds_toArray, List.set_cons_zero, List.set_cons_succ]
  refine' wpAnyH_take (i := 24) (v := _) rfl (by kernel_rfl) (by kernel_rfl) (by kernel_rfl) (fun _ _ _ h => h) (yieldsIf_load_mid (by rfl) _ _ rfl _ _ rfl _ _ ?hS24 ?hu24 ?hd24 ?hi24) (by assumption) ?rest24
  case hS24 => (intro w hSw; (try dsimp only at hSw); obtain ⟨_, _, _, _, _⟩ := hSw; assumption)
  case hu24 => assumption
  case hd24 => rfl
  case hi24 => assumption
  case' rest24 => skip
  try simp only [List.getElem_toArray, List.getElem_cons_zero, List.getElem_cons_succ, Act.put, List.setIfInBounds_toArray, List.set_cons_zero, List.set_cons_succ]
  refine wpAnyH_take (i := 25) (v := ?_) rfl (by kernel_rfl) (by kernel_rfl) (by kernel_rfl) (fun _ _ _ h => h) (Or.inl ⟨by rfl, ?_⟩) (by assumption) ?_
  rotate_left
  · intro w hSw
    (try dsimp only at hSw)
    go_simp
    try with_reducible rfl
  try simp only [List.getElem_toArray, List.getElem_cons_zero, List.getElem_cons_succ, Act.put, List.setIfInBounds_toArray, List.set_cons_zero, List.set_cons_succ]
  refine wpAnyH_take (i := 26) (v := ?_) rfl (by kernel_rfl) (by kernel_rfl) (by kernel_rfl) (fun _ _ _ h => h) (Or.inl ⟨by rfl, ?_⟩) (by assumption) ?_
  rotate_left
  · intro w hSw
    (try dsimp only at hSw)
    go_simp
    try with_reducible rfl
  try simp only [List.getElem_toArray, List.getElem_cons_zero, List.getElem_cons_succ, Act.put, List.setIfInBounds_toArray, List.set_cons_zero, List.set_cons_succ]
  refine wpAnyH_take (i := 27) (v := ?_) rfl (by kernel_rfl) (by kernel_rfl) (by kernel_rfl) (fun _ _ _ h => h) (Or.inl ⟨by rfl, ?_⟩) (by assumption) ?_
  rotate_left
  · intro w hSw
    (try dsimp only at hSw)
    go_simp
    try with_reducible rfl
  try simp only [List.getElem_toArray, List.getElem_cons_zero, List.getElem_cons_succ, Act.put, List.setIfInBounds_toArray, List.set_cons_zero, List.set_cons_succ]
  refine wpAnyH_take (i := 28) (v := ?_) rfl (by kernel_rfl) (by kernel_rfl) (by kernel_rfl) (fun _ _ _ h => h) (Or.inl ⟨by rfl, ?_⟩) (by assumption) ?_
  rotate_left
  · intro w hSw
    (try dsimp only at hSw)
    go_simp
    try with_reducible rfl
  try simp only [List.getElem_toArray, List.getElem_cons_zero, List.getElem_cons_succ, Act.put, List.setIfInBounds_toArray, List.set_cons_zero, List.set_cons_succ]
  refine wpAnyH_take (i := 29) (v := ?_) rfl (by kernel_rfl) (by kernel_rfl) (by kernel_rfl) (fun _ _ _ h => h) (Or.inl ⟨by rfl, ?_⟩) (by assumption) ?_
  rotate_left
  · intro w hSw
    (try dsimp only at hSw)
    go_simp
    try with_reducible rfl
  try simp only [List.getElem_toArray, List.getElem_cons_zero, List.getElem_cons_succ, Act.put, List.setIfInBounds_toArray, List.set_cons_zero, List.set_cons_succ]
  refine wpAnyH_take (i := 30) (v := ?_) rfl (by kernel_rfl) (by kernel_rfl) (by kernel_rfl) (fun _ _ _ h => h) (Or.inl ⟨by rfl, ?_⟩) (by assumption) ?_
  rotate_left
  · intro w hSw
    (try dsimp only at hSw)
    go_simp
    try with_reducible rfl
  try simp only [List.getElem_toArray, List.getElem_cons_zero, List.getElem_cons_succ, Act.put, List.setIfInBounds_toArray, List.set_cons_zero, List.set_cons_succ]
  refine wpAnyH_take (i := 31) (v := ?_) rfl (by kernel_rfl) (by kernel_rfl) (by kernel_rfl) (fun _ _ _ h => h) (Or.inl ⟨by rfl, ?_⟩) (by assumption) ?_
  rotate_left
  · intro w hSw
    (try dsimp only at hSw)
    go_simp
    try with_reducible rfl
  try simp only [List.getElem_toArray, List.getElem_cons_zero, List.getElem_cons_succ, Act.put, List.setIfInBounds_toArray, List.set_cons_zero, List.set_cons_succ]
  refine wpAnyH_take (i := 32) (v := ?_) rfl (by kernel_rfl) (by kernel_rfl) (by kernel_rfl) (fun _ _ _ h => h) (Or.inl ⟨by rfl, ?_⟩) (by assumption) ?_
  rotate_left
  · intro w hSw
    (try dsimp only at hSw)
    go_simp
    try with_reducible rfl
  try simp only [List.getElem_toArray, List.getElem_cons_zero, List.getElem_cons_succ, Act.put, List.setIfInBounds_toArray, List.set_cons_zero, List.set_cons_succ]
  refine' wpAnyH_take (i := 34) (v := _) rfl (by kernel_rfl) (by kernel_rfl) (by kernel_rfl) (fun _ _ _ h => h) (yieldsIf_load_mid (by rfl) _ _ rfl _ _ rfl _ _ ?hS34 ?hu34 ?hd34 ?hi34) (by assumption) ?rest34
  case hS34 => (intro w hSw; (try dsimp only at hSw); obtain ⟨_, _, _, _, _⟩ := hSw; assumption)
  case hu34 => assumption
  case hd34 => rfl
  case hi34 => assumption
  case' rest34 => skip
  try simp only [List.getElem_toArray, List.getElem_cons_zero, List.getElem_cons_succ, Act.put, List.setIfInBounds_toArray, List.set_cons_zero, List.set_cons_succ]
  refine' wpAnyH_take (i := 35) (v := _) rfl (by kernel_rfl) (by kernel_rfl) (by kernel_rfl) (fun _ _ _ h => h) (yieldsIf_load_mid (by rfl) _ _ rfl _ _ rfl _ _ ?hS35 ?hu35 ?hd35 ?hi35) (by assumption) ?rest35
  case hS35 => (intro w hSw; (try dsimp only at hSw); obtain ⟨_, _, _, _, _⟩ := hSw; assumption)
  case hu35 => assumption
  case hd35 => rfl
  case hi35 => assumption
  case' rest35 => skip
  try simp only [List.getElem_toArray, List.getElem_cons_zero, List.getElem_cons_succ, Act.put, List.setIfInBounds_toArray, List.set_cons_zero, List.set_cons_succ]
  refine wpAnyH_ready (rs := [33]) (by kernel_rfl) (by simp) ?_
  refine AllReadyH.cons rfl (fun K hK => ?_) ?_
  go_simp
  go_at_call 35; refine (HRT.out _ (by first | assumption | exact (Chg.refl _ _).drew)).mono ?_; rintro e wj ⟨rfl, hcj⟩; have hCj : Chg [] wi wj := (by first | exact Chg.nil_trans (by assumption) hcj | exact ((Chg.refl _ _).drew).nil_trans hcj)
  go_wp2_with fail
  refine hK.out _ _ (by first | exact hS2 _ (by assumption) | exact hS2 _ (Chg.refl _ _).drew) (fun hHeld => ?_)
  clear hK K
  try simp only [List.getElem_toArray, List.getElem_cons_zero, List.getElem_cons_succ, Act.put, List.setIfInBounds_toArray, List.set_cons_zero, List.set_cons_succ]
  rotate_left
  exact AllReadyH.nil
  refine wpAnyH_ready (rs := [36]) (by kernel_rfl) (by simp) ?_
  refine AllReadyH.cons rfl (fun K hK => ?_) ?_
  go_simp
  go_at_call 81; refine (HFO.out _ (by first | assumption | exact (Chg.refl _ _).drew)).mono ?_; rintro e wj ⟨rfl, hcj⟩; have hCj : Chg [] wi wj := (by first | exact Chg.nil_trans (by assumption) hcj | exact ((Chg.refl _ _).drew).nil_trans hcj)
  go_wp2_with fail
  refine hK.out _ _ (by first | exact hS2 _ (by assumption) | exact hS2 _ (Chg.refl _ _).drew) (fun hHeld => ?_)
  clear hK K
  try simp only [List.getElem_toArray, List.getElem_cons_zero, List.getElem_cons_succ, Act.put, List.setIfInBounds_toArray, List.set_cons_zero, List.set_cons_succ]
  rotate_left
  exact AllReadyH.nil
  refine wpAnyH_ready (rs := [37]) (by kernel_rfl) (by simp) ?_
  refine AllReadyH.cons rfl (fun K hK => ?_) ?_
  go_simp
  go_at_call 80; refine (HRO.out _ (by first | assumption | exact (Chg.refl _ _).drew)).mono ?_; rintro e wj ⟨rfl, hcj⟩; have hCj : Chg [] wi wj := (by first | exact Chg.nil_trans (by assumption) hcj | exact ((Chg.refl _ _).drew).nil_trans hcj)
  go_wp2_with fail
  refine hK.out _ _ (by first | exact hS2 _ (by assumption) | exact hS2 _ (Chg.refl _ _).drew) (fun hHeld => ?_)
  clear hK K
  try simp only [List.getElem_toArray, List.getElem_cons_zero, List.getElem_cons_succ, Act.put, List.setIfInBounds_toArray, List.set_cons_zero, List.set_cons_succ]
  rotate_left
  exact AllReadyH.nil
  refine wpAnyH_take (i := 38) (v := ?_) rfl (by kernel_rfl) (by kernel_rfl) (by kernel_rfl) (fun _ _ _ h => h) (Or.inl ⟨by rfl, ?_⟩) (by assumption) ?_
  rotate_left
  · intro w hSw
    (try dsimp only at hSw)
    go_simp
    try with_reducible rfl
  try simp only [List.getElem_toArray, List.getElem_cons_zero, List.getElem_cons_succ, Act.put, List.setIfInBounds_toArray, List.set_cons_zero, List.set_cons_succ]
  refine wpAnyH_take (i := 39) (v := ?_) rfl (by kernel_rfl) (by kernel_rfl) (by kernel_rfl) (fun _ _ _ h => h) (Or.inl ⟨by rfl, ?_⟩) (by assumption) ?_
  rotate_left
  · intro w hSw
    (try dsimp only at hSw)
    go_simp
    try with_reducible rfl
  try simp only [List.getElem_toArray, List.getElem_cons_zero, List.getElem_cons_succ, Act.put, List.setIfInBounds_toArray, List.set_cons_zero, List.set_cons_succ]
  refine wpAnyH_take (i := 40) (v := ?_) rfl (by kernel_rfl) (by kernel_rfl) (by kernel_rfl) (fun _ _ _ h => h) (Or.inl ⟨by rfl, ?_⟩) (by assumption) ?_
  rotate_left
  · intro w hSw
    (try dsimp only at hSw)
    go_simp
    try with_reducible rfl
  try simp only [List.getElem_toArray, List.getElem_cons_zero, List.getElem_cons_succ, Act.put, List.setIfInBounds_toArray, List.set_cons_zero, List.set_cons_succ]
  refine wpAnyH_done (by kernel_rfl) ?_ _
  refine NoPanic.normal ?_
  go_wp2
  go_ret
  exact ⟨rfl, HCH.out.nil_trans hCj⟩
end Go.Proofs.YtpklkefnmoaaaaaGreatDoor

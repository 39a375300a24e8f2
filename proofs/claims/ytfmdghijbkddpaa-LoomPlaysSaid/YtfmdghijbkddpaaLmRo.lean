/- LoomPlays: its walk. -/
import Derived.Test.YtfmdghijbkddpaaLmRn
namespace Go.Proofs.Ytfmdghijbkddpaa
open Go.RowKit
set_option linter.unusedVariables false
set_option linter.unusedSimpArgs false

/-- The law's copy of the picks: where it lies, and that it lies apart. -/
structure Copy (W : World) (g o c : Nat) (ps : List Int) (F : List Nat) : Prop where
  ns : NsIs .i64 W (.slice (some ⟨g, o, none⟩) ps.length c) ps
  lt : g < W.heap.size
  last : W.cell? ⟨g, o + ps.length, none⟩ = some (.int .i64 171)
  far : ∀ k ∈ F, k ≠ g
theorem Copy.farNs {W : World} {g o c : Nat} {ps : List Int} {F G : List Nat} (h : Copy W g o c ps F) (hG : ∀ k ∈ G, k ∈ F) : FarNs W (.slice (some ⟨g, o, none⟩) ps.length c) ps G :=
  ⟨h.ns, fun _ k hk hm => by
    simp [Value.ownBlock] at hk
    exact h.far k (hG k hm) hk.symm⟩
theorem Copy.step {W W' : World} {g o c : Nat} {ps : List Int} {F F' : List Nat} (h : Copy W g o c ps F) (hc : Chg F W W') (hF : ∀ k ∈ F', k ∈ F ∨ W.heap.size ≤ k) : Copy W' g o c ps F' := by
  have hl := h.lt
  have hs := hc.size
  refine ⟨(h.farNs (G := F) (fun k hk => hk)).keep hc, by omega, ?_, fun k hk => ?_⟩
  · rw [hc.cell (p := ⟨g, o + ps.length, none⟩) hl (fun hm => h.far g hm rfl)]
    exact h.last
  · rcases hF k hk with e | e
    · exact h.far k e
    · omega
theorem Copy.chg0 {W W' : World} {g o c : Nat} {ps : List Int} {F : List Nat} (h : Copy W g o c ps F) (hc : Chg [] W W') : Copy W' g o c ps F := h.step hc.of_nil (fun k hk => .inl hk)
theorem copy_is {w w2 : World} {g o c : Nat} {ps : List Int} {F : List Nat} (hW : ∀ n ∈ ps, (Lit.int .i64 n).wf = true) (hr : RowIs w2 3 1 (.slice (some ⟨g, o, none⟩) (ps.length + 1) c) (ps.length + 1) (zCells (ps ++ [171]))) (hg : w.heap.size ≤ g) (hF : ∀ k ∈ F, k < w.heap.size) : Copy w2 g o c ps F := by
  have hgl := hr.lt g rfl
  have hlast : (zCells (ps ++ [171]))[ps.length]? = some (.int .i64 171) := by simp [zCells]
  refine ⟨⟨hW, _, _, rfl, .inr ⟨g, o, rfl, hgl, fun i hi => ?_⟩⟩, hgl, hr.cell hlast, fun k hk e => by have := hF k hk; omega⟩
  exact hr.cell (by
    unfold zCells
    rw [List.getElem?_map, List.getElem?_append_left hi, List.getElem?_eq_getElem hi]
    rfl)
theorem far_arg {w W : World} {v : Value} {ps : List Int} {F : List Nat} (hv : NsIs .i64 w v ps) (hc : Chg [] w W) (hF : ∀ k ∈ F, w.heap.size ≤ k) : FarNs W v ps F := by
  refine ⟨hv.chg hc (by simp), fun hn g hg hm => ?_⟩
  obtain ⟨_, a, cap, rfl, hr⟩ := hv
  rcases hr with e | ⟨pb, po, rfl, hpb, _⟩
  · exact hn e
  · simp [Value.ownBlock] at hg
    subst hg
    have := hF _ hm
    omega

set_option maxRecDepth 100000 in
set_option maxHeartbeats 8000000 in
theorem plays_main (w : World) (a j r : Nat) (h1 : 1 ≤ a) (h2 : a ≤ 64) (h3 : j ≤ 400) (h4 : r ≤ 65536) (v : Value) (fs : List Int) (hv : NsIs .i64 w v fs) (hfl : fs.length ≤ 400) (u : Value) (ps : List Int) (hv2 : NsIs .i64 w u ps) (hpl : ps.length ≤ 400) (cn : Int) :
    Calls Try.prog 9 #[.int .i64 a, .int .i64 j, .int .i64 r, v, u, .int .i64 cn] w (Res w [] (.bool true)) := by
  have htw := two_yes a j r w h1 h2 (by omega) h4
  have hp1 : ∀ w1 b q rb rq, LmIs w1 b (LS.init a j r) q → RefIs w1 rb (LS.init a j r) rq → (∀ k ∈ q.foot b, w.heap.size ≤ k) → (∀ k ∈ rq.lv.foot rb, w.heap.size ≤ k) → (∀ k ∈ q.foot b, k ∉ rq.lv.foot rb) → PR w w1 b q rb rq (LS.init a j r) := fun w1 b q rb rq => pr_init h1 h2 (by omega) h4
  generalize LS.init a j r = s0 at *
  obtain ⟨hW, pa, pcap, rfl, hpr⟩ := hv
  obtain ⟨ua, ucap, rfl⟩ := hv2.shape
  have d1 : decide ((400 : Int) < fs.length) = false := by simp; omega
  have d2 : decide ((400 : Int) < ps.length) = false := by simp; omega
  have d3 : decide ((400 : Int) < j) = false := by simp; omega
  have d4 : decide (400 < j) = false := by simp; omega
  have d5 : decide (400 < fs.length) = false := by simp; omega
  have d6 : decide (400 < ps.length) = false := by simp; omega
  go_enter Try.func9, Try.ntmps9
  go_upto_region 4 with (go_at_call 18; refine htw.mono ?_; rintro e w1 ⟨b, q, rb, rq, rfl, k1, k2, k3, k4, k5, k6⟩)
  have P := hp1 _ _ _ _ _ k1 k2 k4 k5 k6
  have hc0 := k3
  clear k1 k2 k3 k4 k5 k6 hp1 htw d1 d2 d3 d4 d5 d6
  go_upto_region 8 with (fail)
  go_wp2
  go_loopg [16] fs.length (fun g ii wx => ∃ (i : Nat) (s : LS) (q : LV) (rq : RV), i ≤ fs.length ∧ g = fs.length - i ∧ ii = .int .i64 i ∧ PR w wx b q rb rq s ∧ Chg [] w wx)
  case atStart => exact ⟨0, s0, q, rq, by omega, by omega, rfl, P, hc0⟩
  case round =>
    clear P hc0
    obtain ⟨i, s, q, rq, hi, hgi, rfl, P, hcw⟩ := hrel
    by_cases hlt : i < fs.length
    · have hlt' : i < fs.length := hlt
      obtain ⟨pb, po, rfl, hpb, hpc⟩ : ∃ pb po, pa = some ⟨pb, po, none⟩ ∧ pb < w.heap.size ∧ ∀ i (hi : i < fs.length), w.cell? ⟨pb, po + i, none⟩ = some (.int .i64 fs[i]) := by
        rcases hpr with e | e
        · rw [e] at hlt'; simp at hlt'
        · exact e
      have hpt : wr.cell? ⟨pb, po + i, none⟩ = some (.int .i64 fs[i]) := by
        rw [hcw.cell (p := ⟨pb, po + i, none⟩) hpb (by simp)]
        exact hpc i hlt'
      have hpw9 := wf_i64 (hW fs[i] (List.getElem_mem hlt'))
      have hpl5 := World.block_lt_of_cell? _ _ hpt
      clear hpc
      generalize fs[i] = pk at *
      have hPx := P.chg0 ((Chg.refl [] wr).drew)
      have hcx : Chg [] w wr.drew := hcw.drew
      have hpw : wr.drew.cell? ⟨pb, po + i, none⟩ = some (.int .i64 pk) := hpt
      have hszx := hcx.size
      have hpF : ∀ k ∈ feet b q rb rq, k ≠ pb := fun k hk e => by have := hPx.new k hk; omega
      have hpb2 : pb < wr.drew.heap.size := by omega
      have hkeep := mvS_keep s pk hPx.good hPx.ends
      have CA : Calls Try.prog 14 #[.pointer (some ⟨b, 0, none⟩), .int .i64 pk] wr.drew fun e w' => e = .returned (.int .i64 (s.mvE pk)) ∧ PH w wr.drew w' b q rb rq s (s.mvS pk) ∧ w'.cell? ⟨pb, po + i, none⟩ = some (.int .i64 pk) :=
        (mv_calls _ _ _ _ pk hPx.l hPx.good).mono fun e w' ⟨h1, h2⟩ => ⟨h1, ⟨hPx, hszx, h2⟩, by
          obtain ⟨q', a1, a2, a3⟩ := h2
          rw [a2.cell (p := ⟨pb, po + i, none⟩) hpb2 (fun hm => hpF pb (by simp [feet, hm]) rfl)]
          exact hpw⟩
      have CB : ∀ W, PH w wr.drew W b q rb rq s (s.mvS pk) → Calls Try.prog 19 #[.pointer (some ⟨rb, 0, none⟩), .int .i64 pk] W fun e w' => e = .returned (.int .i64 (s.mvE pk)) ∧ (∃ q' rq', PR w w' b q' rb rq' (s.mvS pk) ∧ Chg (feet b q rb rq) wr.drew w' ∧ ∀ k ∈ feet b q' rb rq', k ∈ feet b q rb rq ∨ wr.drew.heap.size ≤ k) ∧ w'.cell? ⟨pb, po + i, none⟩ = some (.int .i64 pk) := fun W hP =>
        (rmv_calls _ _ _ _ pk hP.ref hPx.good hPx.ends).mono fun e w' ⟨h1, h2⟩ => by
          obtain ⟨q', rq', d1, d2, d3⟩ := hP.done hkeep.1 hkeep.2 h2
          refine ⟨h1, ⟨q', rq', d1, d2, d3⟩, ?_⟩
          rw [d2.cell (p := ⟨pb, po + i, none⟩) hpb2 (fun hm => hpF pb hm rfl)]
          exact hpw
      generalize s.mvE pk = me at *
      generalize s.mvS pk = s2 at *
      clear P
      go_upto_region 11 with (fail)
      go_region_held3 (fun W => W.cell? ⟨pb, po + i, none⟩ = some (.int .i64 pk)) (assumption)
        (first
          | (go_at_call 14; refine CA.mono ?_; rintro e w' ⟨rfl, hM, hk⟩)
          | (go_at_call 19; refine (CB _ (by assumption)).mono ?_; rintro e w' ⟨rfl, hD, hk⟩))
      all_goals
        obtain ⟨q', rq', d1, d2, d3⟩ := hD
        have D1 := Lib.hid d1
        clear d1 d3
        go_wp2
        go_roundg (fs.length - (i + 1))
        case measure => omega
        case rel => exact ⟨i + 1, _, q', rq', by omega, rfl, by go_num, D1.out, hcx.trans d2 (fun x hx => .inr (hPx.new x hx))⟩
    · obtain rfl : i = fs.length := by omega
      obtain ⟨a1, c1, wa, hr1, g, o, c2, w2, hr2, hrow, hcc, hcm, hch, hgn⟩ := copy_run wr _ ps (hv2.chg hcw (by simp)) (by omega)
      have C0 := copy_is hv2.1 hrow hgn P.lt
      have P2 := P.chg0 hch
      have hc2 := hcw.nil_trans hch
      unfold maxLen at hcm
      clear P hcw hch hrow
      go_upto_region 14 with (fail)
      clear hr1 hr2
      have hpl1 := play_calls w2 b s q P2.l P2.good P2.ends _ ps (C0.farNs (fun k hk => by simp [feet, hk])) (by omega) cn
      have hpl2 : ∀ W, MakeP w2 b q (LS.playF ps cn (s.phi + 1) 0 s).2 W → _ := fun W hm => rplay_calls W rb s rq (PH.ref ⟨P2, hc2.size, hm⟩) P2.good P2.ends _ ps (far_arg hv2 (by
        obtain ⟨_, a1, a2, a3⟩ := hm
        exact hc2.trans a2 (fun x hx => .inr (P2.nl x hx))) P2.nr) (by omega) cn
      have hkp := playF_keep ps cn (s.phi + 1) 0 s P2.good P2.ends
      have htl := playF_le ps cn (s.phi + 1) 0 s
      have hph : s.phi ≤ 300000 := by have := P2.good.2; omega
      generalize LS.playF ps cn (s.phi + 1) 0 s = R at *
      obtain ⟨T, s4⟩ := R
      dsimp only at hpl1 hpl2 hkp htl
      have hT : T ≤ 300001 := by omega
      have HKP := Lib.hid hkp
      clear hkp htl hph
      go_wp2_with fail
      go_at_call 29
      refine hpl1.mono ?_
      rintro e w3 ⟨rfl, hM⟩
      go_wp2_with fail
      go_at_call 30
      refine (hpl2 w3 hM).mono ?_
      rintro e w4 ⟨rfl, hR⟩
      obtain ⟨q4, rq4, P4, d2, d3⟩ := PH.done ⟨P2, hc2.size, hM⟩ HKP.out.1 HKP.out.2 hR
      have hc4 : Chg [] w w4 := hc2.trans d2 (fun x hx => .inr (P2.new x hx))
      have C4 := C0.step d2 d3
      clear hpl1 hpl2 hM hR d2 d3 HKP
      have hlc := C4.last
      have hgl := C4.lt
      have hli := listi_calls w4 _ _ ps (by omega) C4.ns (hv2.chg hc4 (by simp))
      go_wp2_with (go_at_call 31; refine hli.mono ?_; rintro e w5 ⟨rfl, hc5⟩; have hlc := (C4.chg0 hc5).last; have hgl := (C4.chg0 hc5).lt)
      have P5 := P4.chg0 hc5
      have C5 := C4.chg0 hc5
      have hcw5 := hc4.nil_trans hc5
      have hA5 := alike_calls w5 b s4 q4 rb rq4 P5.l P5.r P5.good.1 P5.ends.wz
      clear P4 C4 hc4 hc5 hli
      go_at_call 20
      refine hA5.mono ?_
      rintro e w6 ⟨rfl, hc6⟩
      have P6 := P5.chg0 hc6
      have C6 := C5.chg0 hc6
      have hcw6 := hcw5.nil_trans hc6
      clear P5 C5 hcw5 hc6 hA5 hlc hgl
      have hpl1 := play_calls w6 b s4 q4 P6.l P6.good P6.ends _ ps (C6.farNs (fun k hk => by simp [feet, hk])) (by omega) cn
      have hpl2 : ∀ W, MakeP w6 b q4 (LS.playF ps cn (s4.phi + 1) 0 s4).2 W → _ := fun W hm => rplay_calls W rb s4 rq4 (PH.ref ⟨P6, hcw6.size, hm⟩) P6.good P6.ends _ ps (far_arg hv2 (by
        obtain ⟨_, a1, a2, a3⟩ := hm
        exact hcw6.trans a2 (fun x hx => .inr (P6.nl x hx))) P6.nr) (by omega) cn
      have hkp := playF_keep ps cn (s4.phi + 1) 0 s4 P6.good P6.ends
      have htl := playF_le ps cn (s4.phi + 1) 0 s4
      have hph : s4.phi ≤ 300000 := by have := P6.good.2; omega
      generalize LS.playF ps cn (s4.phi + 1) 0 s4 = R at *
      obtain ⟨T, s8⟩ := R
      dsimp only at hpl1 hpl2 hkp htl
      have hT : T ≤ 300001 := by omega
      have HKP := Lib.hid hkp
      clear hkp htl hph
      go_wp2_with fail
      go_at_call 29
      refine hpl1.mono ?_
      rintro e w3 ⟨rfl, hM⟩
      go_wp2_with fail
      go_at_call 30
      refine (hpl2 w3 hM).mono ?_
      rintro e w8 ⟨rfl, hR⟩
      obtain ⟨q8, rq8, P8, d2, d3⟩ := PH.done ⟨P6, hcw6.size, hM⟩ HKP.out.1 HKP.out.2 hR
      have hc8 : Chg [] w w8 := hcw6.trans d2 (fun x hx => .inr (P6.new x hx))
      have C8 := C6.step d2 d3
      clear hpl1 hpl2 hM hR d2 d3 HKP
      have hkc := cS_keep s8 P8.good P8.ends
      have hC := c_calls w8 b s8 q8 P8.l
      have hC2 : ∀ W, MakeP w8 b q8 s8.cS W → _ := fun W hm => rc_calls W rb s8 rq8 (PH.ref ⟨P8, hc8.size, hm⟩)
      have HKC := Lib.hid hkc
      clear hkc C8
      generalize s8.cE = ce at *
      generalize s8.cS = s9 at *
      go_wp2_with fail
      go_at_call 17
      refine hC.mono ?_
      rintro e w9 ⟨rfl, hM⟩
      go_wp2_with fail
      go_at_call 26
      refine (hC2 w9 hM).mono ?_
      rintro e w10 ⟨rfl, hR⟩
      obtain ⟨q9, rq9, P9, d2, d3⟩ := PH.done ⟨P8, hc8.size, hM⟩ HKC.out.1 HKC.out.2 hR
      have hc9 := hc8.trans d2 (fun x hx => .inr (P8.new x hx))
      have hA9 := alike_calls w10 b s9 q9 rb rq9 P9.l P9.r P9.good.1 P9.ends.wz
      clear P9 P8 d2 d3 hM hR hC hC2 HKC
      go_wp2_with fail
      go_at_call 20
      refine hA9.mono ?_
      rintro e w11 ⟨rfl, hc11⟩
      go_wp2_with (go_at_call 16; refine (awake_calls w11).mono ?_; rintro e w12 ⟨rfl, hc12⟩)
      go_ret
      exact ⟨rfl, (hc9.nil_trans hc11).nil_trans hc12⟩
theorem plays_long1 (w : World) (a j r : Int) (v : Value) (fs : List Int) (hv : NsIs .i64 w v fs) (u : Value) (ps : List Int) (hv2 : NsIs .i64 w u ps) (cn : Int) (h1 : 400 < fs.length) :
    Calls Try.prog 9 #[.int .i64 a, .int .i64 j, .int .i64 r, v, u, .int .i64 cn] w (Res w [] (.bool true)) := by
  obtain ⟨fa, fcap, rfl⟩ := hv.shape
  obtain ⟨ua, ucap, rfl⟩ := hv2.shape
  have d1 : decide ((400 : Int) < fs.length) = true := decide_eq_true (by omega)
  go_enter Try.func9, Try.ntmps9
  go_wp2
  go_ret
  exact ⟨rfl, Chg.refl _ _⟩
theorem plays_long2 (w : World) (a j r : Int) (v : Value) (fs : List Int) (hv : NsIs .i64 w v fs) (u : Value) (ps : List Int) (hv2 : NsIs .i64 w u ps) (cn : Int) (h1 : ¬ 400 < fs.length) (h2 : 400 < ps.length) :
    Calls Try.prog 9 #[.int .i64 a, .int .i64 j, .int .i64 r, v, u, .int .i64 cn] w (Res w [] (.bool true)) := by
  obtain ⟨fa, fcap, rfl⟩ := hv.shape
  obtain ⟨ua, ucap, rfl⟩ := hv2.shape
  have d1 : decide ((400 : Int) < fs.length) = false := decide_eq_false (by omega)
  have d2 : decide ((400 : Int) < ps.length) = true := decide_eq_true (by omega)
  go_enter Try.func9, Try.ntmps9
  go_wp2
  go_ret
  exact ⟨rfl, Chg.refl _ _⟩
theorem plays_jobs (w : World) (a j r : Int) (v : Value) (fs : List Int) (hv : NsIs .i64 w v fs) (u : Value) (ps : List Int) (hv2 : NsIs .i64 w u ps) (cn : Int) (h1 : ¬ 400 < fs.length) (h2 : ¬ 400 < ps.length) (h3 : 400 < j) :
    Calls Try.prog 9 #[.int .i64 a, .int .i64 j, .int .i64 r, v, u, .int .i64 cn] w (Res w [] (.bool true)) := by
  obtain ⟨fa, fcap, rfl⟩ := hv.shape
  obtain ⟨ua, ucap, rfl⟩ := hv2.shape
  have d1 : decide ((400 : Int) < fs.length) = false := decide_eq_false (by omega)
  have d2 : decide ((400 : Int) < ps.length) = false := decide_eq_false (by omega)
  have d3 : decide ((400 : Int) < j) = true := decide_eq_true (by omega)
  go_enter Try.func9, Try.ntmps9
  go_wp2
  go_ret
  exact ⟨rfl, Chg.refl _ _⟩
theorem plays_no (w : World) (a j r : Int) (v : Value) (fs : List Int) (hv : NsIs .i64 w v fs) (u : Value) (ps : List Int) (hv2 : NsIs .i64 w u ps) (cn : Int) (h1 : ¬ 400 < fs.length) (h2 : ¬ 400 < ps.length) (h3 : ¬ 400 < j) (h : ¬ mayP a j r) :
    Calls Try.prog 9 #[.int .i64 a, .int .i64 j, .int .i64 r, v, u, .int .i64 cn] w (Res w [] (.bool true)) := by
  obtain ⟨fa, fcap, rfl⟩ := hv.shape
  obtain ⟨ua, ucap, rfl⟩ := hv2.shape
  have d1 : decide ((400 : Int) < fs.length) = false := decide_eq_false (by omega)
  have d2 : decide ((400 : Int) < ps.length) = false := decide_eq_false (by omega)
  have d3 : decide ((400 : Int) < j) = false := decide_eq_false (by omega)
  go_enter Try.func9, Try.ntmps9
  go_upto_region 4 with (go_at_call 18; refine (two_no _ _ _ w h).mono ?_; rintro e w3 ⟨rfl, hw3⟩; obtain rfl : w = w3 := hw3.symm)
  go_wp2_with (go_at_call 16; refine (awake_calls w).mono ?_; rintro e w7 ⟨rfl, hc7⟩)
  go_ret
  exact ⟨rfl, hc7⟩
theorem plays_walk (w : World) (a : Int) (ha : -9223372036854775808 ≤ a ∧ a < 9223372036854775808) (j : Int) (hj : -9223372036854775808 ≤ j ∧ j < 9223372036854775808) (r : Int) (hr : -9223372036854775808 ≤ r ∧ r < 9223372036854775808) (v : Value) (fs : List Int) (hv : NsIs .i64 w v fs) (u : Value) (ps : List Int) (hv2 : NsIs .i64 w u ps) (cn : Int) (hcn : -9223372036854775808 ≤ cn ∧ cn < 9223372036854775808) :
    Calls Try.prog 9 #[.int .i64 a, .int .i64 j, .int .i64 r, v, u, .int .i64 cn] w (Res w [] (.bool true)) := by
  by_cases h1 : 400 < fs.length
  · exact plays_long1 w a j r v fs hv u ps hv2 cn h1
  · by_cases h2 : 400 < ps.length
    · exact plays_long2 w a j r v fs hv u ps hv2 cn h1 h2
    · by_cases h3 : 400 < j
      · exact plays_jobs w a j r v fs hv u ps hv2 cn h1 h2 h3
      · by_cases h : mayP a j r
        · obtain ⟨k1, k2, k3, k4, k5, k6⟩ := h
          obtain ⟨a, rfl⟩ : ∃ n : Nat, a = n := ⟨a.toNat, by omega⟩
          obtain ⟨j, rfl⟩ : ∃ n : Nat, j = n := ⟨j.toNat, by omega⟩
          obtain ⟨r, rfl⟩ : ∃ n : Nat, r = n := ⟨r.toNat, by omega⟩
          exact plays_main w a j r (by omega) (by omega) (by omega) (by omega) v fs hv (by omega) u ps hv2 (by omega) cn
        · exact plays_no w a j r v fs hv u ps hv2 cn h1 h2 h3 h
end Go.Proofs.Ytfmdghijbkddpaa

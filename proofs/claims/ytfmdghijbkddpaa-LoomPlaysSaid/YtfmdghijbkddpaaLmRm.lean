/- Play: what it makes of a loom; the loom's, the document's. -/
import Derived.Test.YtfmdghijbkddpaaLmRl
namespace Go.Proofs.Ytfmdghijbkddpaa
open Go.RowKit
set_option linter.unusedVariables false
set_option linter.unusedSimpArgs false

def pickI (m : Nat) (x : Int) : Int := (x.tmod m + m).tmod m
theorem pickI_eq (m : Nat) (x : Int) (hm : 0 < m) : pickI m x = (if x.tmod m < 0 then x.tmod m + m else x.tmod m) ∧ 0 ≤ pickI m x ∧ pickI m x < m := by
  have h1 : x.tmod m < m := Int.tmod_lt_of_pos _ (by omega)
  have h2 : -(m : Int) < x.tmod m := Int.lt_tmod_of_pos _ (by omega)
  unfold pickI
  generalize x.tmod m = y at *
  by_cases hy : y < 0
  · rw [if_pos hy, Int.tmod_eq_of_lt (by omega) (by omega)]
    omega
  · rw [if_neg hy]
    have e : (y + m).tmod m = y := by
      rw [Int.tmod_eq_emod_of_nonneg (by omega), Int.add_emod_right, Int.emod_eq_of_lt (by omega) (by omega)]
    rw [e]
    omega
def LS.pick (s : LS) (ps : List Int) (t : Nat) : Int := if h : t < ps.length then pickI s.moves.length ps[t] else 0
theorem pick_lt (s : LS) (ps : List Int) (t : Nat) (hm : 0 < s.moves.length) : 0 ≤ s.pick ps t ∧ s.pick ps t < s.moves.length := by
  unfold LS.pick
  split
  · exact (pickI_eq _ _ hm).2
  · omega
def LS.cAt (s : LS) (cn : Int) (t : Nat) : LS := if (t : Int) = cn then s.cS else s
theorem cAt_keep (s : LS) (cn : Int) (t : Nat) (hg : s.good) (he : s.ends) : (s.cAt cn t).good ∧ (s.cAt cn t).ends ∧ (s.cAt cn t).phi = s.phi := by
  unfold LS.cAt
  split
  · exact ⟨(cS_keep s hg he).1, (cS_keep s hg he).2, rfl⟩
  · exact ⟨hg, he, rfl⟩
/-- Play: from the t-th move on. -/
def LS.playF (ps : List Int) (cn : Int) : Nat → Nat → LS → Nat × LS
  | 0, t, s => (t, s)
  | f + 1, t, s => if 0 < (s.cAt cn t).moves.length then LS.playF ps cn f (t + 1) ((s.cAt cn t).mvS ((s.cAt cn t).pick ps t)) else (t, s.cAt cn t)
theorem mvS_phi (s : LS) (k : Int) (hi : s.inv) (h : 0 ≤ k ∧ k < s.moves.length) : (s.mvS k).phi + 1 ≤ s.phi := by
  unfold LS.mvS
  rw [dif_pos h]
  exact (inv_make s _ hi (can_of_mem s _ (List.getElem_mem _))).2.1

structure LP (w wx : World) (b : Nat) (q0 : LV) (s : LS) (q : LV) : Prop where
  l : LmIs wx b s q
  good : s.good
  ends : s.ends
  chg : Chg (q0.foot b) w wx
  new : ∀ k ∈ q.foot b, k ∈ q0.foot b ∨ w.heap.size ≤ k
theorem LP.chg0 {w wx w' : World} {b : Nat} {q0 q : LV} {s : LS} (h : LP w wx b q0 s q) (hc : Chg [] wx w') : LP w w' b q0 s q := ⟨h.l.chg0 hc, h.good, h.ends, h.chg.nil_trans hc, h.new⟩
theorem LP.mk2 {w wx w' : World} {b : Nat} {q0 q : LV} {s s' : LS} (h : LP w wx b q0 s q) (hm : MakeP wx b q s' w') (hg : s'.good) (he : s'.ends) : ∃ q', LP w w' b q0 s' q' := by
  obtain ⟨q', a1, a2, a3⟩ := hm
  have hs := h.chg.size
  refine ⟨q', a1, hg, he, h.chg.trans a2 (fun x hx => h.new x hx), fun k hk => ?_⟩
  rcases a3 k hk with e | e
  · exact h.new k e
  · right; omega
structure RP (w wx : World) (b : Nat) (q0 : RV) (s : LS) (q : RV) : Prop where
  l : RefIs wx b s q
  good : s.good
  ends : s.ends
  chg : Chg (q0.lv.foot b) w wx
  new : ∀ k ∈ q.lv.foot b, k ∈ q0.lv.foot b ∨ w.heap.size ≤ k
theorem RP.chg0 {w wx w' : World} {b : Nat} {q0 q : RV} {s : LS} (h : RP w wx b q0 s q) (hc : Chg [] wx w') : RP w w' b q0 s q := ⟨h.l.chg0 hc, h.good, h.ends, h.chg.nil_trans hc, h.new⟩
theorem RP.mk2 {w wx w' : World} {b : Nat} {q0 q : RV} {s s' : LS} (h : RP w wx b q0 s q) (hm : RMakeP wx b q s' w') (hg : s'.good) (he : s'.ends) : ∃ q', RP w w' b q0 s' q' := by
  obtain ⟨q', a1, a2, a3⟩ := hm
  have hs := h.chg.size
  refine ⟨q', a1, hg, he, h.chg.trans a2 (fun x hx => h.new x hx), fun k hk => ?_⟩
  rcases a3 k hk with e | e
  · exact h.new k e
  · right; omega

/-- A row of numbers that a footprint does not touch. -/
def FarNs (w : World) (v : Value) (ps : List Int) (F : List Nat) : Prop := NsIs .i64 w v ps ∧ (ps ≠ [] → ∀ g, v.ownBlock = some g → g ∉ F)
theorem FarNs.cell {w wx : World} {a : Option Addr} {cap : Nat} {ps : List Int} {F : List Nat} (h : FarNs w (.slice a ps.length cap) ps F) (hc : Chg F w wx) (t : Nat) (ht : t < ps.length) : ∃ pb po, a = some ⟨pb, po, none⟩ ∧ wx.cell? ⟨pb, po + t, none⟩ = some (.int .i64 ps[t]) := by
  obtain ⟨⟨_, a', cap', hv, hr⟩, hF⟩ := h
  simp only [Value.slice.injEq, true_and] at hv
  obtain ⟨rfl, rfl⟩ := hv
  rcases hr with e | ⟨pb, po, rfl, hpb, hcl⟩
  · rw [e] at ht; simp at ht
  · refine ⟨pb, po, rfl, ?_⟩
    rw [hc.cell (p := ⟨pb, po + t, none⟩) hpb (hF (fun e => by rw [e] at ht; simp at ht) pb rfl)]
    exact hcl t ht

theorem FarNs.keep {w wx : World} {v : Value} {ps : List Int} {F : List Nat} (h : FarNs w v ps F) (hc : Chg F w wx) : NsIs .i64 wx v ps := by
  obtain ⟨⟨hW, a', cap', rfl, hr⟩, hF⟩ := h
  refine ⟨hW, a', cap', rfl, ?_⟩
  rcases hr with e | ⟨pb, po, rfl, hpb, hcl⟩
  · exact .inl e
  · by_cases hn : ps = []
    · exact .inl hn
    · refine .inr ⟨pb, po, rfl, by have := hc.size; omega, fun i hi => ?_⟩
      rw [hc.cell (p := ⟨pb, po + i, none⟩) hpb (hF hn pb rfl)]
      exact hcl i hi
set_option maxRecDepth 100000 in
set_option maxHeartbeats 4000000 in
theorem play_calls (w : World) (b : Nat) (s : LS) (q : LV) (h : LmIs w b s q) (hg : s.good) (he : s.ends) (v : Value) (ps : List Int) (hv : FarNs w v ps (q.foot b)) (hpl : ps.length ≤ 100000) (cn : Int) :
    Calls Try.prog 29 #[.pointer (some ⟨b, 0, none⟩), v, .int .i64 cn] w fun e w' => e = .returned (.int .i64 (LS.playF ps cn (s.phi + 1) 0 s).1) ∧ MakeP w b q (LS.playF ps cn (s.phi + 1) 0 s).2 w' := by
  have hphi : s.phi ≤ 300000 := by have := hg.2; omega
  have hL : LP w w b q s q := ⟨h, hg, he, Chg.refl _ _, fun k hk => .inl hk⟩
  obtain ⟨pa, pcap, rfl⟩ : ∃ a c, v = .slice a ps.length c := by
    obtain ⟨⟨_, a, c, hv, _⟩, _⟩ := hv
    exact ⟨a, c, hv⟩
  have hW := hv.1.1
  have hpcell := fun wx (hc : Chg (q.foot b) w wx) t ht => hv.cell hc t ht
  clear h hg he hv
  obtain ⟨R, hR⟩ : ∃ R, R = LS.playF ps cn (s.phi + 1) 0 s := ⟨_, rfl⟩
  rw [← hR]
  have HR := Lib.hid hR
  clear hR
  go_enter Try.func29, Try.ntmps29
  go_wp2
  go_loopg [7] 400000 (fun g tt wx => ∃ (t f : Nat) (s' : LS) (q' : LV), g = 400000 - t ∧ tt = .int .i64 t ∧ LP w wx b q s' q' ∧ s'.phi + 1 ≤ f ∧ t + s'.phi ≤ 300000 ∧ Hid (R = LS.playF ps cn f t s'))
  case atStart => exact ⟨0, s.phi + 1, s, q, rfl, rfl, hL, by omega, by omega, HR⟩
  case round =>
    clear hL HR
    obtain ⟨t, f, s1, q1, hgt, rfl, hL, hf, htp, HR⟩ := hrel
    obtain ⟨f, rfl⟩ : ∃ n, f = n + 1 := ⟨f - 1, by omega⟩
    have hRe : R = if 0 < (s1.cAt cn t).moves.length then LS.playF ps cn f (t + 1) ((s1.cAt cn t).mvS ((s1.cAt cn t).pick ps t)) else (t, s1.cAt cn t) := HR.out
    have HRE := Lib.hid hRe
    clear hRe HR
    obtain ⟨c1, c2, c3⟩ := cAt_keep s1 cn t hL.good hL.ends
    go_upto_if 15 with (fail)
    go_cut [] from 16 to 18 (fun wx => ∃ q2, LP w wx b q (s1.cAt cn t) q2)
    case first =>
      obtain ⟨x0, x1, x2, x3, x4, x5, x6, x7, x8, x9, x10⟩ := hL.l.cells
      have f8 := blk_frozen hL.l.1 8
      have hbl := blk_lt hL.l.1
      by_cases htc : (t : Int) = cn
      · have b1 : ((t : Int) == cn) = true := by simp [htc]
        have e1 : s1.cAt cn t = s1.cS := by unfold LS.cAt; rw [if_pos htc]
        have hk := hL.l.2.2.2.2.2
        have hset := hL.l.set (s' := s1.cS) 8 (.bool true) (by omega) (by omega) rfl rfl rfl rfl ⟨hk.jobs, hk.room, hk.next, hk.ws, hk.st, hk.ch, hk.ans, hk.out, hk.top, hk.made⟩
        obtain ⟨q3, hq3⟩ := hL.mk2 ⟨q1, hset, (Chg.refl _ _).setCell (by simp [LV.foot]) _, fun k hk => .inl hk⟩ (by rw [← e1]; exact c1) (by rw [← e1]; exact c2)
        have HQ3 := Lib.hid hq3
        have E1 := Lib.hid e1
        clear hq3 hset htc e1 hL
        go_wp2
        go_meet
        exact ⟨q3, by rw [E1.out]; exact HQ3.out⟩
      · have b1 : ((t : Int) == cn) = false := by simp [htc]
        have e1 : s1.cAt cn t = s1 := by unfold LS.cAt; rw [if_neg htc]
        have E1 := Lib.hid e1
        clear e1
        go_wp2
        go_meet
        exact ⟨q1, by rw [E1.out]; exact hL⟩
    case rest =>
    clear hL
    obtain ⟨q2, hL⟩ := hcut
    generalize s1.cAt cn t = s2 at *
    go_upto_region 6 with (go_at_call 13; refine (moves_calls _ b s2 q2 hL.l).mono ?_; rintro e w5 ⟨vm, rfl, hr, hc5, _⟩)
    have hL5 := hL.chg0 hc5
    have hlen : s2.moves.length ≤ 260 := by have := moves_length s2; have := hL5.l.2.2.2.2.2.ws; omega
    obtain ⟨va, vcap, hve, _⟩ := hr.slice
    by_cases hz : s2.moves.length = 0
    · have hRR : R = (t, s2) := by rw [HRE.out, if_neg (by omega)]
      rw [hz] at hve
      subst hve
      have HRR := Lib.hid hRR
      clear hRR hr
      go_wp2
      go_ret
      rw [HRR.out]
      exact ⟨rfl, q2, hL5.l, hL5.chg, hL5.new⟩
    · have hpos : 0 < s2.moves.length := by omega
      have hRR : R = LS.playF ps cn f (t + 1) (s2.mvS (s2.pick ps t)) := by rw [HRE.out, if_pos hpos]
      have HRR := Lib.hid hRR
      have b3 : ((s2.moves.length : Int) == 0) = false := beq_eq_false_iff_ne.2 (by omega)
      clear hve hRR
      obtain ⟨mg, mo, mcap, rfl, _, _⟩ := hr.ptr hpos
      have hpl2 := pick_lt s2 ps t hpos
      have HRow := Lib.hid hr
      clear hr
      go_upto_if 29 with (fail)
      go_cut [10, 29] from 30 to 39 (fun kk bb wx => kk = .int .i64 (s2.pick ps t) ∧ wx = w5)
      case first =>
        by_cases hpk : t < ps.length
        · have d1 : decide (t < ps.length) = true := by simp [hpk]
          obtain ⟨pb, po, rfl, hpt⟩ := hpcell w5 hL5.chg t hpk
          have hpw := wf_i64 (hW ps[t] (List.getElem_mem hpk))
          have hpl5 := World.block_lt_of_cell? _ _ hpt
          have e : s2.pick ps t = ps[t].tmod s2.moves.length % s2.moves.length := by
            unfold LS.pick
            rw [dif_pos hpk]
            unfold pickI
            have := Int.lt_tmod_of_pos ps[t] (show (0 : Int) < s2.moves.length by omega)
            rw [Int.tmod_eq_emod_of_nonneg (by omega), Int.add_emod_right]
          have E := Lib.hid e
          clear e hpcell
          generalize ps[t] = pk at *
          have hm1 : pk.tmod s2.moves.length < s2.moves.length := Int.tmod_lt_of_pos _ (by omega)
          have hm2 : -(s2.moves.length : Int) < pk.tmod s2.moves.length := Int.lt_tmod_of_pos _ (by omega)
          have hm3 := (pickI_eq s2.moves.length pk hpos).2
          have hm4 : 0 ≤ (pk.tmod s2.moves.length + s2.moves.length).tmod s2.moves.length ∧ (pk.tmod s2.moves.length + s2.moves.length).tmod s2.moves.length < s2.moves.length := hm3
          clear hm3
          go_wp2
          go_meet
          exact ⟨by rw [E.out], rfl⟩
        · have d1 : decide (t < ps.length) = false := by simp [hpk]
          have e : s2.pick ps t = 0 := by unfold LS.pick; rw [dif_neg hpk]
          have E := Lib.hid e
          clear e
          go_wp2
          go_meet
          exact ⟨by rw [E.out], rfl⟩
      case rest =>
      obtain ⟨rfl, hwe⟩ := hcut
      subst hwe
      obtain ⟨k, hk⟩ : ∃ k : Nat, s2.pick ps t = k := ⟨(s2.pick ps t).toNat, by omega⟩
      rw [hk] at hpl2 ⊢
      have hkl : k < s2.moves.length := by omega
      have hms : s2.mvS (s2.pick ps t) = s2.make s2.moves[k] := by rw [hk]; unfold LS.mvS; rw [dif_pos ⟨by omega, by omega⟩]; rfl
      have hph := mvS_phi s2 (s2.pick ps t) hL5.good.1 (by rw [hk]; omega)
      rw [hms] at hph
      have hRR2 : R = LS.playF ps cn f (t + 1) (s2.make s2.moves[k]) := by rw [HRR.out, hms]
      have HRR2 := Lib.hid hRR2
      have hcan := can_of_mem s2 s2.moves[k] (List.getElem_mem hkl)
      have hmk := fun w' (hl : LmIs w' b s2 q2) => make_calls w' b s2 q2 s2.moves[k] hl hL5.good hcan
      have hg2 := hL5.good.make hcan
      have he2 := ends_make s2 _ hL5.good.1 hL5.ends hcan
      obtain ⟨x1, x2, x3⟩ := mCells_at s2.moves k hkl
      have y1 := HRow.out.cell x1
      have y2 := HRow.out.cell x2
      have y3 := HRow.out.cell x3
      rw [← Nat.add_assoc] at y2 y3
      have hgl := World.block_lt_of_cell? _ _ y1
      clear hk hms hRR2 x1 x2 x3 hcan
      generalize s2.make s2.moves[k] = s3 at *
      generalize s2.moves[k] = m at *
      go_wp2_with (go_at_call 43; refine (hmk _ hL5.l).mono ?_; rintro e w6 ⟨rfl, hM⟩)
      obtain ⟨q6, hL6⟩ := hL5.mk2 hM hg2 he2
      go_roundg (400000 - (t + 1))
      case measure => omega
      case rel => exact ⟨t + 1, f, s3, q6, rfl, by go_num, hL6, by omega, by omega, HRR2⟩
set_option maxRecDepth 100000 in
set_option maxHeartbeats 4000000 in
theorem rplay_calls (w : World) (b : Nat) (s : LS) (q : RV) (h : RefIs w b s q) (hg : s.good) (he : s.ends) (v : Value) (ps : List Int) (hv : FarNs w v ps (q.lv.foot b)) (hpl : ps.length ≤ 100000) (cn : Int) :
    Calls Try.prog 30 #[.pointer (some ⟨b, 0, none⟩), v, .int .i64 cn] w fun e w' => e = .returned (.int .i64 (LS.playF ps cn (s.phi + 1) 0 s).1) ∧ RMakeP w b q (LS.playF ps cn (s.phi + 1) 0 s).2 w' := by
  have hphi : s.phi ≤ 300000 := by have := hg.2; omega
  have hL : RP w w b q s q := ⟨h, hg, he, Chg.refl _ _, fun k hk => .inl hk⟩
  obtain ⟨pa, pcap, rfl⟩ : ∃ a c, v = .slice a ps.length c := by
    obtain ⟨⟨_, a, c, hv, _⟩, _⟩ := hv
    exact ⟨a, c, hv⟩
  have hW := hv.1.1
  have hpcell := fun wx (hc : Chg (q.lv.foot b) w wx) t ht => hv.cell hc t ht
  clear h hg he hv
  obtain ⟨R, hR⟩ : ∃ R, R = LS.playF ps cn (s.phi + 1) 0 s := ⟨_, rfl⟩
  rw [← hR]
  have HR := Lib.hid hR
  clear hR
  go_enter Try.func30, Try.ntmps30
  go_wp2
  go_loopg [7] 400000 (fun g tt wx => ∃ (t f : Nat) (s' : LS) (q' : RV), g = 400000 - t ∧ tt = .int .i64 t ∧ RP w wx b q s' q' ∧ s'.phi + 1 ≤ f ∧ t + s'.phi ≤ 300000 ∧ Hid (R = LS.playF ps cn f t s'))
  case atStart => exact ⟨0, s.phi + 1, s, q, rfl, rfl, hL, by omega, by omega, HR⟩
  case round =>
    clear hL HR
    obtain ⟨t, f, s1, q1, hgt, rfl, hL, hf, htp, HR⟩ := hrel
    obtain ⟨f, rfl⟩ : ∃ n, f = n + 1 := ⟨f - 1, by omega⟩
    have hRe : R = if 0 < (s1.cAt cn t).moves.length then LS.playF ps cn f (t + 1) ((s1.cAt cn t).mvS ((s1.cAt cn t).pick ps t)) else (t, s1.cAt cn t) := HR.out
    have HRE := Lib.hid hRe
    clear hRe HR
    obtain ⟨c1, c2, c3⟩ := cAt_keep s1 cn t hL.good hL.ends
    go_upto_if 12 with (fail)
    go_cut [] from 13 to 15 (fun wx => ∃ q2, RP w wx b q (s1.cAt cn t) q2)
    case first =>
      obtain ⟨x0, x1, x2, x3, x4, x5, x6, x7, x8, x9, x10, x11, x12⟩ := hL.l.cells
      have f10 := blk_frozen hL.l.1 10
      have hbl := blk_lt hL.l.1
      by_cases htc : (t : Int) = cn
      · have b1 : ((t : Int) == cn) = true := by simp [htc]
        have e1 : s1.cAt cn t = s1.cS := by unfold LS.cAt; rw [if_pos htc]
        have hk := hL.l.2.2.2.2.2.1
        have hset := hL.l.set (s' := s1.cS) 10 (.bool true) (by omega) (by omega) rfl rfl rfl rfl ⟨hk.jobs, hk.room, hk.next, hk.ws, hk.st, hk.ch, hk.ans, hk.out, hk.top, hk.made⟩
        obtain ⟨q3, hq3⟩ := hL.mk2 ⟨q1, hset, (Chg.refl _ _).setCell (by simp [LV.foot]) _, fun k hk => .inl hk⟩ (by rw [← e1]; exact c1) (by rw [← e1]; exact c2)
        have HQ3 := Lib.hid hq3
        have E1 := Lib.hid e1
        clear hq3 hset htc e1 hL
        go_wp2
        go_meet
        exact ⟨q3, by rw [E1.out]; exact HQ3.out⟩
      · have b1 : ((t : Int) == cn) = false := by simp [htc]
        have e1 : s1.cAt cn t = s1 := by unfold LS.cAt; rw [if_neg htc]
        have E1 := Lib.hid e1
        clear e1
        go_wp2
        go_meet
        exact ⟨q1, by rw [E1.out]; exact hL⟩
    case rest =>
    clear hL
    obtain ⟨q2, hL⟩ := hcut
    generalize s1.cAt cn t = s2 at *
    go_upto_region 5 with (go_at_call 25; refine (rmoves_calls _ b s2 q2 hL.l hL.good.1 hL.ends.wz).mono ?_; rintro e w5 ⟨vm, rfl, hr, hc5, _⟩)
    have hL5 := hL.chg0 hc5
    have hlen : s2.moves.length ≤ 260 := by have := moves_length s2; have := hL5.l.2.2.2.2.2.1.ws; omega
    obtain ⟨va, vcap, hve, _⟩ := hr.slice
    by_cases hz : s2.moves.length = 0
    · have hRR : R = (t, s2) := by rw [HRE.out, if_neg (by omega)]
      rw [hz] at hve
      subst hve
      have HRR := Lib.hid hRR
      clear hRR hr
      go_wp2
      go_ret
      rw [HRR.out]
      exact ⟨rfl, q2, hL5.l, hL5.chg, hL5.new⟩
    · have hpos : 0 < s2.moves.length := by omega
      have hRR : R = LS.playF ps cn f (t + 1) (s2.mvS (s2.pick ps t)) := by rw [HRE.out, if_pos hpos]
      have HRR := Lib.hid hRR
      have b3 : ((s2.moves.length : Int) == 0) = false := beq_eq_false_iff_ne.2 (by omega)
      clear hve hRR
      obtain ⟨mg, mo, mcap, rfl, _, _⟩ := hr.ptr hpos
      have hpl2 := pick_lt s2 ps t hpos
      have HRow := Lib.hid hr
      clear hr
      go_upto_if 25 with (fail)
      go_cut [9, 25] from 26 to 38 (fun kk bb wx => kk = .int .i64 (s2.pick ps t) ∧ wx = w5)
      case first =>
        by_cases hpk : t < ps.length
        · have d1 : decide (t < ps.length) = true := by simp [hpk]
          obtain ⟨pb, po, rfl, hpt⟩ := hpcell w5 hL5.chg t hpk
          have hpw := wf_i64 (hW ps[t] (List.getElem_mem hpk))
          have hpl5 := World.block_lt_of_cell? _ _ hpt
          have e : s2.pick ps t = pickI s2.moves.length ps[t] := by unfold LS.pick; rw [dif_pos hpk]
          have E := Lib.hid e
          clear e hpcell
          generalize ps[t] = pk at *
          have hm1 : pk.tmod s2.moves.length < s2.moves.length := Int.tmod_lt_of_pos _ (by omega)
          have hm2 : -(s2.moves.length : Int) < pk.tmod s2.moves.length := Int.lt_tmod_of_pos _ (by omega)
          have hm3 := (pickI_eq s2.moves.length pk hpos).1
          by_cases hneg : pk.tmod s2.moves.length < 0
          · rw [if_pos hneg] at hm3
            have HM3 := Lib.hid hm3
            clear hm3
            go_wp2
            go_meet
            exact ⟨by rw [E.out, HM3.out], rfl⟩
          · rw [if_neg hneg] at hm3
            have HM3 := Lib.hid hm3
            clear hm3
            go_wp2
            go_meet
            exact ⟨by rw [E.out, HM3.out], rfl⟩
        · have d1 : decide (t < ps.length) = false := by simp [hpk]
          have e : s2.pick ps t = 0 := by unfold LS.pick; rw [dif_neg hpk]
          have E := Lib.hid e
          clear e
          go_wp2
          go_meet
          exact ⟨by rw [E.out], rfl⟩
      case rest =>
      obtain ⟨rfl, hwe⟩ := hcut
      subst hwe
      obtain ⟨k, hk⟩ : ∃ k : Nat, s2.pick ps t = k := ⟨(s2.pick ps t).toNat, by omega⟩
      rw [hk] at hpl2 ⊢
      have hkl : k < s2.moves.length := by omega
      have hms : s2.mvS (s2.pick ps t) = s2.make s2.moves[k] := by rw [hk]; unfold LS.mvS; rw [dif_pos ⟨by omega, by omega⟩]; rfl
      have hph := mvS_phi s2 (s2.pick ps t) hL5.good.1 (by rw [hk]; omega)
      rw [hms] at hph
      have hRR2 : R = LS.playF ps cn f (t + 1) (s2.make s2.moves[k]) := by rw [HRR.out, hms]
      have HRR2 := Lib.hid hRR2
      have hcan := can_of_mem s2 s2.moves[k] (List.getElem_mem hkl)
      have hmk := fun w' (hl : RefIs w' b s2 q2) => rmake_calls w' b s2 q2 s2.moves[k] hl hL5.good hcan
      have hg2 := hL5.good.make hcan
      have he2 := ends_make s2 _ hL5.good.1 hL5.ends hcan
      obtain ⟨x1, x2, x3⟩ := mCells_at s2.moves k hkl
      have y1 := HRow.out.cell x1
      have y2 := HRow.out.cell x2
      have y3 := HRow.out.cell x3
      rw [← Nat.add_assoc] at y2 y3
      have hgl := World.block_lt_of_cell? _ _ y1
      clear hk hms hRR2 x1 x2 x3 hcan
      generalize s2.make s2.moves[k] = s3 at *
      generalize s2.moves[k] = m at *
      go_wp2_with (go_at_call 45; refine (hmk _ hL5.l).mono ?_; rintro e w6 ⟨rfl, hM⟩)
      obtain ⟨q6, hL6⟩ := hL5.mk2 hM hg2 he2
      go_roundg (400000 - (t + 1))
      case measure => omega
      case rel => exact ⟨t + 1, f, s3, q6, rfl, by go_num, hL6, by omega, by omega, HRR2⟩
end Go.Proofs.Ytfmdghijbkddpaa

/- Texts put into one by pack.py: MpQ. -/
import Derived.Test.YtpklkefnmoaaaaaGreatDoorPkN
import Derived.Test.YtpklkefnmoaaaaaGreatDoorMpPp
import Derived.Test.YtpklkefnmoaaaaaGreatDoorPkG
/- MmrPlays: any act; whole. -/
namespace Go.Proofs.YtpklkefnmoaaaaaGreatDoor
open Go.RowKit
set_option linter.unusedVariables false
set_option linter.unusedSimpArgs false
section
variable {w0 w : World} {b rb m : Nat} {t : TS} {r : RT} {x : AM}
theorem ActQ.up {m' : Nat} {F0 : List Nat} {e : Ending} {w' : World} (h : ActQ F0 w0 b rb m e w') (hm : m ≤ m') : ActQ F0 w0 b rb m' e w' := by
  obtain ⟨he, t', r', h1, h2⟩ := h
  exact ⟨he, t', r', h1, h2.up hm⟩
theorem actM_calls (h : Two [] w0 w b rb t r) (hr : Rel t r m) (hm : m ≤ 1000) (hk : HIs w) (hx : x.ok w) (hx0 : x.ok w0) (hwt : am1w x ≤ 1000) : Calls Tryz.prog 17 #[.pointer (some ⟨b, 0, none⟩), .pointer (some ⟨rb, 0, none⟩), .agg x.cells] w (ActQ [] w0 b rb (m + am1w x)) := by
  have hw1 : am1w x = 1 + x.dl.length / 16 + x.nl.length := rfl
  have up1 : ∀ e w', ActQ [] w0 b rb (m + 1) e w' → ActQ [] w0 b rb (m + am1w x) e w' := fun e w' q => q.up (by omega)
  by_cases e1 : x.what = 1
  · exact (actM_append h hr hm hk hx e1).mono up1
  by_cases e2 : x.what = 2
  · exact (actM_add h hr hm hk hx hx0 (by omega) e2).mono up1
  by_cases e3 : x.what = 3
  · exact (actM_peaks h hr hm hk hx e3).mono up1
  by_cases e4 : x.what = 4
  · exact (actM_node h hr hx e4).mono up1
  by_cases e5 : x.what = 5
  · exact (actM_old h hr hm hk hx e5).mono up1
  by_cases e6 : x.what = 6
  · exact (actM_install h hr hm hx hx0 (by omega) e6).mono (fun e w' q => q.up (by omega))
  by_cases e7 : x.what = 7
  · exact (actM_drop h hr hm hx e7).mono up1
  by_cases e8 : x.what = 8
  · exact (actM_back h hr hm hx e8).mono up1
  refine (actM_none h hr hx (fun k h1 h2 e => ?_)).mono up1
  have : k = 1 ∨ k = 2 ∨ k = 3 ∨ k = 4 ∨ k = 5 ∨ k = 6 ∨ k = 7 ∨ k = 8 := by omega
  rcases this with rfl | rfl | rfl | rfl | rfl | rfl | rfl | rfl <;> contradiction
/-- The document's tree's cells. -/
def SWh (rb : Nat) (r : RT) (W : World) : Prop := W.cell? ⟨rb, 0, none⟩ = some (.int .i64 r.wd) ∧ W.cell? ⟨rb, 1, none⟩ = some (.int .u64 r.n) ∧ W.cell? ⟨rb, 2, none⟩ = some (.pointer (some ⟨r.c, 0, none⟩)) ∧ rb < W.heap.size
theorem RtIs.swh (h : RtIs w rb r) : SWh rb r w := ⟨blk_cell h.mem 0 rfl, blk_cell h.mem 1 rfl, blk_cell h.mem 2 rfl, blk_lt h.mem⟩
set_option maxRecDepth 100000 in
set_option maxHeartbeats 8000000 in
theorem wholeM_calls (h : Two [] w0 w b rb t r) (hr : Rel t r m) (hm : m ≤ 1000) (hk : HIs w) : Calls Tryz.prog 18 #[.pointer (some ⟨b, 0, none⟩), .pointer (some ⟨rb, 0, none⟩)] w (Res w [] (.bool true)) := by
  have hsz := hr.size
  have hln := hr.len
  have hfu := hr.full
  have hnl := nodes_le t.size
  have qL := fun (W : World) (hc : Chg [] w W) => rlen_calls r.c r.d W (h.rf.chg0 hc).st
  have qN := fun (p : Nat) (hp : p < 18446744073709551616) (W : World) (hc : Chg [] w W) => tNode_calls W b p t (h.tr.chg0 hc) hp
  have qR : ∀ (p : Nat) (W : World), Chg [] w W → Calls Tryz.prog 90 #[.pointer (some ⟨rb, 0, none⟩), .int .u64 p] W (Res W [] (.tuple #[.agg (t.s.getH p), .int .i64 (t.s.getE p)])) := fun p W hc => by
    have := r6node_calls W rb p r (h.rf.chg0 hc)
    have e1 : dH r.d p = t.s.getH p := (hr.getH' p).symm
    have e2 : dE r.d p = t.s.getE p := (hr.getE' p).symm
    rwa [e1, e2] at this
  have hIs := fun (p : Nat) => IsHash.getH h.tr.st p
  have hS := fun (W : World) (hc : Chg [] w W) => (h.rf.chg0 hc).swh
  have qZ := fun (W : World) (hc : Chg [] w W) => tSize_calls W b t (h.tr.chg0 hc)
  have qW := fun (W : World) (hc : Chg [] w W) => twidth_calls W b t (h.tr.chg0 hc)
  have qP := fun (W : World) (hc : Chg [] w W) => tPeaks_calls W b t (h.tr.chg0 hc) (by omega)
  have qQ : ∀ W, Chg [] w W → Calls Tryz.prog 85 #[.pointer (some ⟨rb, 0, none⟩)] W (PkG (PeaksOf t.s (peaksN t.size)) W) := fun W hc => by
    have := r6peaks_calls W rb r (h.rf.chg0 hc) (by rw [hr.n]; omega)
    rwa [hr.peaks] at this
  have qT := fun (W : World) (hc : Chg [] w W) => tRoot_calls W b t (h.tr.chg0 hc) (by omega) (hk.chg0 hc)
  have qU : ∀ W, Chg [] w W → Calls Tryz.prog 89 #[.pointer (some ⟨rb, 0, none⟩)] W (Res W [] (.agg t.root)) := fun W hc => by
    have := r6root_calls W rb r (h.rf.chg0 hc) (by rw [hr.n]; omega)
    rwa [hr.root] at this
  have qS := fun (W : World) (hc : Chg [] w W) => tstore_calls W b t (h.tr.chg0 hc)
  have qE := fun (W : World) (hc : Chg [] w W) => len_calls t.sb t.s W (h.tr.chg0 hc).st
  have hRi := h.tr.rootIs
  have hGl : (PeaksOf t.s (peaksN t.size)).length ≤ 63 := Nat.le_trans (PeaksOf_len _ _) (peaks_63 _)
  have hNb : r.d.ns.length ≤ 2000 := by omega
  have en : ((t.size : Int) == (r.n : Int)) = true := by rw [beq_iff_eq, hr.n]
  have ew : ((t.wd : Int) == (r.wd : Int)) = true := by rw [beq_iff_eq, hr.wd]
  have el : ((t.s.n : Int) == (r.d.ns.length : Int)) = true := by rw [beq_iff_eq, hln]
  have hnn : r.n ≤ 1000 := by rw [hr.n]; omega
  have htn : t.size ≤ 1000 := by omega
  have QL := Lib.hid qL
  have QN := Lib.hid qN
  have QR := Lib.hid qR
  have HIS := Lib.hid hIs
  have HS := Lib.hid hS
  have QZ := Lib.hid qZ
  have QW := Lib.hid qW
  have QP := Lib.hid qP
  have QQ := Lib.hid qQ
  have QT := Lib.hid qT
  have QU := Lib.hid qU
  have QS := Lib.hid qS
  have QE := Lib.hid qE
  clear qL qN qR hIs hS qZ qW qP qQ qT qU qS qE h hr hk hln hfu hnl hsz
  generalize r.d.ns.length = NL at *
  generalize PeaksOf t.s (peaksN t.size) = G at *
  generalize t.root = R at *
  have htl : t.s.n ≤ 2000 := by have := el; rw [beq_iff_eq] at this; omega
  generalize t.s.n = TN at *
  go_enter Tryz.func18, Tryz.ntmps18
  go_wp2_with fail
  go_loopg [5] (NL + 1) (fun mm i wr => ∃ k : Nat, k ≤ NL + 1 ∧ mm = NL + 1 - k ∧ i = .int .u64 k ∧ Chg [] w wr)
  case atStart => exact ⟨0, Nat.zero_le _, by omega, rfl, Chg.refl _ _⟩
  case round =>
    obtain ⟨k, hk, hgk, rfl, hc⟩ := hrel
    obtain ⟨s0, s1, s2, s3⟩ := HS.out _ hc
    have HG := Lib.hid hgk
    clear hgk
    by_cases hlt : k < NL + 1
    · have hHi := HIS.out k
      have g1 := hHi.1
      have g2 := hHi.one
      have q1 := QN.out k (by omega)
      have q2 := QR.out k
      generalize t.s.getH k = H at *
      generalize t.s.getE k = E at *
      have heq : eqH H H = true := eqH_self
      have hee : (E != E) = false := by simp
      have dn : decide ((k : Int) < (NL : Int) + 1) = true := by simp; omega
      go_wp2_with fail
      go_at_call 100
      refine (QL.out _ hc).mono ?_
      rintro e w1 ⟨rfl, hc1⟩
      have c1 := hc.nil_trans hc1
      go_wp2_with fail
      go_at_call 50
      refine (q1 _ c1).mono ?_
      rintro e w2 ⟨rfl, hc2⟩
      have c2 := c1.nil_trans hc2
      have a1 := rng?_alloc_at w2 w2.heap.size 32 H 36 rfl g1
      have c3 : Chg [] w (w2.alloc (.cells H 36)) := c2.alloc _
      have z5 : w2.heap.size < (w2.alloc (.cells H 36)).heap.size := by rw [World.size_alloc]; omega
      go_wp2_with fail
      go_at_call 90
      refine (q2 _ c3).mono ?_
      rintro e w4 ⟨rfl, hc4⟩
      have a2 := rng?_chg hc4 a1 (by omega) (by simp)
      have z6 : w2.heap.size < w4.heap.size := Nat.lt_of_lt_of_le z5 hc4.size
      go_wp2
      go_roundg (NL + 1 - (k + 1))
      case measure => rw [HG.out]; omega
      case rel => exact ⟨k + 1, by omega, rfl, by go_num, (c3.nil_trans hc4).alloc _⟩
    · obtain rfl : k = NL + 1 := by omega
      have dn : decide (((NL : Int) + 1) < (NL : Int) + 1) = false := by simp
      go_wp2_with fail
      go_at_call 100
      refine (QL.out _ hc).mono ?_
      rintro e w1 ⟨rfl, hc1⟩
      have c1 := (hc.nil_trans hc1).drew
      have r1 := hRi.1
      have r2 := hRi.one
      have heq : eqH R R = true := eqH_self
      have hp0 := HS.out _ c1
      go_upto_region 8 with (fail)
      clear s0 s1 s2 s3 dn hlt HIS QN QR
      refine wp_region_noPanic ?_
      refine wp_region_held_drew (S := (fun W => SWh rb r W)) (by kernel_rfl) (by exact hp0) (fun hHeld => ?_)
      have hHeldX := hHeld
      refine wpAnyH_take (i := 0) (v := ?_) rfl (by kernel_rfl) (by kernel_rfl) (by kernel_rfl) (fun _ _ _ h => h) (Or.inl ⟨by rfl, ?_⟩) (by first | assumption | exact hHeldX) ?_
      rotate_left
      · intro w hSw
        (try dsimp only at hSw)
        go_simp
        try with_reducible rfl
      try simp only [List.getElem_toArray, List.getElem_cons_zero, List.getElem_cons_succ, Act.put, List.setIfInBounds_toArray, List.set_cons_zero, List.set_cons_succ]
      refine wpAnyH_take (i := 2) (v := ?_) rfl (by kernel_rfl) (by kernel_rfl) (by kernel_rfl) (fun _ _ _ h => h) (Or.inl ⟨by rfl, ?_⟩) (by first | assumption | exact hHeldX) ?_
      rotate_left
      · intro w hSw
        (try dsimp only at hSw)
        go_simp
        try with_reducible rfl
      try simp only [List.getElem_toArray, List.getElem_cons_zero, List.getElem_cons_succ, Act.put, List.setIfInBounds_toArray, List.set_cons_zero, List.set_cons_succ]
      refine wpAnyH_take (i := 3) (v := ?_) rfl (by kernel_rfl) (by kernel_rfl) (by kernel_rfl) (fun _ _ _ h => h) (Or.inl ⟨by rfl, ?_⟩) (by first | assumption | exact hHeldX) ?_
      rotate_left
      · intro w hSw
        (try dsimp only at hSw)
        go_simp
        try with_reducible rfl
      try simp only [List.getElem_toArray, List.getElem_cons_zero, List.getElem_cons_succ, Act.put, List.setIfInBounds_toArray, List.set_cons_zero, List.set_cons_succ]
      refine wpAnyH_take (i := 4) (v := ?_) rfl (by kernel_rfl) (by kernel_rfl) (by kernel_rfl) (fun _ _ _ h => h) (Or.inl ⟨by rfl, ?_⟩) (by first | assumption | exact hHeldX) ?_
      rotate_left
      · intro w hSw
        (try dsimp only at hSw)
        go_simp
        try with_reducible rfl
      try simp only [List.getElem_toArray, List.getElem_cons_zero, List.getElem_cons_succ, Act.put, List.setIfInBounds_toArray, List.set_cons_zero, List.set_cons_succ]
      refine wpAnyH_take (i := 5) (v := ?_) rfl (by kernel_rfl) (by kernel_rfl) (by kernel_rfl) (fun _ _ _ h => h) (Or.inl ⟨by rfl, ?_⟩) (by first | assumption | exact hHeldX) ?_
      rotate_left
      · intro w hSw
        (try dsimp only at hSw)
        obtain ⟨hSw1, hSw2, hSw3, hSw4⟩ := hSw
        go_simp
        try with_reducible rfl
      try simp only [List.getElem_toArray, List.getElem_cons_zero, List.getElem_cons_succ, Act.put, List.setIfInBounds_toArray, List.set_cons_zero, List.set_cons_succ]
      refine wpAnyH_ready (rs := [1]) (by kernel_rfl) (by simp) ?_
      refine AllReadyH.cons rfl (fun K hK => ?_) ?_
      go_simp
      go_at_call 37; refine (QZ.out _ c1).mono ?_; rintro e w2 ⟨rfl, hc2⟩
      go_wp2_with fail
      refine hK.out _ _ (by exact HS.out _ (c1.nil_trans hc2)) (fun hHeld => ?_)
      clear hK K
      try simp only [List.getElem_toArray, List.getElem_cons_zero, List.getElem_cons_succ, Act.put, List.setIfInBounds_toArray, List.set_cons_zero, List.set_cons_succ]
      rotate_left
      exact AllReadyH.nil
      have c2 := c1.nil_trans hc2
      refine wpAnyH_take (i := 6) (v := ?_) rfl (by kernel_rfl) (by kernel_rfl) (by kernel_rfl) (fun _ _ _ h => h) (Or.inl ⟨by rfl, ?_⟩) (by first | assumption | exact hHeldX) ?_
      rotate_left
      · intro w hSw
        (try dsimp only at hSw)
        go_simp
        try with_reducible rfl
      try simp only [List.getElem_toArray, List.getElem_cons_zero, List.getElem_cons_succ, Act.put, List.setIfInBounds_toArray, List.set_cons_zero, List.set_cons_succ]
      refine wpAnyH_take (i := 7) (v := ?_) rfl (by kernel_rfl) (by kernel_rfl) (by kernel_rfl) (fun _ _ _ h => h) (Or.inl ⟨by rfl, ?_⟩) (by first | assumption | exact hHeldX) ?_
      rotate_left
      · intro w hSw
        (try dsimp only at hSw)
        go_simp
        try with_reducible rfl
      try simp only [List.getElem_toArray, List.getElem_cons_zero, List.getElem_cons_succ, Act.put, List.setIfInBounds_toArray, List.set_cons_zero, List.set_cons_succ]
      refine wpAnyH_take (i := 8) (v := ?_) rfl (by kernel_rfl) (by kernel_rfl) (by kernel_rfl) (fun _ _ _ h => h) (Or.inl ⟨by rfl, ?_⟩) (by first | assumption | exact hHeldX) ?_
      rotate_left
      · intro w hSw
        (try dsimp only at hSw)
        go_simp
        try with_reducible rfl
      try simp only [List.getElem_toArray, List.getElem_cons_zero, List.getElem_cons_succ, Act.put, List.setIfInBounds_toArray, List.set_cons_zero, List.set_cons_succ]
      refine wpAnyH_take (i := 10) (v := ?_) rfl (by kernel_rfl) (by kernel_rfl) (by kernel_rfl) (fun _ _ _ h => h) (Or.inl ⟨by rfl, ?_⟩) (by first | assumption | exact hHeldX) ?_
      rotate_left
      · intro w hSw
        (try dsimp only at hSw)
        go_simp
        try with_reducible rfl
      try simp only [List.getElem_toArray, List.getElem_cons_zero, List.getElem_cons_succ, Act.put, List.setIfInBounds_toArray, List.set_cons_zero, List.set_cons_succ]
      refine wpAnyH_take (i := 11) (v := ?_) rfl (by kernel_rfl) (by kernel_rfl) (by kernel_rfl) (fun _ _ _ h => h) (Or.inl ⟨by rfl, ?_⟩) (by first | assumption | exact hHeldX) ?_
      rotate_left
      · intro w hSw
        (try dsimp only at hSw)
        go_simp
        try with_reducible rfl
      try simp only [List.getElem_toArray, List.getElem_cons_zero, List.getElem_cons_succ, Act.put, List.setIfInBounds_toArray, List.set_cons_zero, List.set_cons_succ]
      refine wpAnyH_take (i := 12) (v := ?_) rfl (by kernel_rfl) (by kernel_rfl) (by kernel_rfl) (fun _ _ _ h => h) (Or.inl ⟨by rfl, ?_⟩) (by first | assumption | exact hHeldX) ?_
      rotate_left
      · intro w hSw
        (try dsimp only at hSw)
        go_simp
        try with_reducible rfl
      try simp only [List.getElem_toArray, List.getElem_cons_zero, List.getElem_cons_succ, Act.put, List.setIfInBounds_toArray, List.set_cons_zero, List.set_cons_succ]
      refine wpAnyH_take (i := 13) (v := ?_) rfl (by kernel_rfl) (by kernel_rfl) (by kernel_rfl) (fun _ _ _ h => h) (Or.inl ⟨by rfl, ?_⟩) (by first | assumption | exact hHeldX) ?_
      rotate_left
      · intro w hSw
        (try dsimp only at hSw)
        obtain ⟨hSw1, hSw2, hSw3, hSw4⟩ := hSw
        go_simp
        try with_reducible rfl
      try simp only [List.getElem_toArray, List.getElem_cons_zero, List.getElem_cons_succ, Act.put, List.setIfInBounds_toArray, List.set_cons_zero, List.set_cons_succ]
      refine wpAnyH_ready (rs := [9]) (by kernel_rfl) (by simp) ?_
      refine AllReadyH.cons rfl (fun K hK => ?_) ?_
      go_simp
      go_at_call 101; refine (QW.out _ c2).mono ?_; rintro e w3 ⟨rfl, hc3⟩
      go_wp2_with fail
      refine hK.out _ _ (by exact HS.out _ (c2.nil_trans hc3)) (fun hHeld => ?_)
      clear hK K
      try simp only [List.getElem_toArray, List.getElem_cons_zero, List.getElem_cons_succ, Act.put, List.setIfInBounds_toArray, List.set_cons_zero, List.set_cons_succ]
      rotate_left
      exact AllReadyH.nil
      have c3 := c2.nil_trans hc3
      refine wpAnyH_take (i := 14) (v := ?_) rfl (by kernel_rfl) (by kernel_rfl) (by kernel_rfl) (fun _ _ _ h => h) (Or.inl ⟨by rfl, ?_⟩) (by first | assumption | exact hHeldX) ?_
      rotate_left
      · intro w hSw
        (try dsimp only at hSw)
        go_simp
        try with_reducible rfl
      try simp only [List.getElem_toArray, List.getElem_cons_zero, List.getElem_cons_succ, Act.put, List.setIfInBounds_toArray, List.set_cons_zero, List.set_cons_succ]
      refine wpAnyH_take (i := 15) (v := ?_) rfl (by kernel_rfl) (by kernel_rfl) (by kernel_rfl) (fun _ _ _ h => h) (Or.inl ⟨by rfl, ?_⟩) (by first | assumption | exact hHeldX) ?_
      rotate_left
      · intro w hSw
        (try dsimp only at hSw)
        go_simp
        try with_reducible rfl
      try simp only [List.getElem_toArray, List.getElem_cons_zero, List.getElem_cons_succ, Act.put, List.setIfInBounds_toArray, List.set_cons_zero, List.set_cons_succ]
      refine wpAnyH_take (i := 16) (v := ?_) rfl (by kernel_rfl) (by kernel_rfl) (by kernel_rfl) (fun _ _ _ h => h) (Or.inl ⟨by rfl, ?_⟩) (by first | assumption | exact hHeldX) ?_
      rotate_left
      · intro w hSw
        (try dsimp only at hSw)
        go_simp
        try with_reducible rfl
      try simp only [List.getElem_toArray, List.getElem_cons_zero, List.getElem_cons_succ, Act.put, List.setIfInBounds_toArray, List.set_cons_zero, List.set_cons_succ]
      refine wpAnyH_take (i := 17) (v := ?_) rfl (by kernel_rfl) (by kernel_rfl) (by kernel_rfl) (fun _ _ _ h => h) (Or.inl ⟨by rfl, ?_⟩) (by first | assumption | exact hHeldX) ?_
      rotate_left
      · intro w hSw
        (try dsimp only at hSw)
        go_simp
        try with_reducible rfl
      try simp only [List.getElem_toArray, List.getElem_cons_zero, List.getElem_cons_succ, Act.put, List.setIfInBounds_toArray, List.set_cons_zero, List.set_cons_succ]
      refine wpAnyH_take (i := 19) (v := ?_) rfl (by kernel_rfl) (by kernel_rfl) (by kernel_rfl) (fun _ _ _ h => h) (Or.inl ⟨by rfl, ?_⟩) (by first | assumption | exact hHeldX) ?_
      rotate_left
      · intro w hSw
        (try dsimp only at hSw)
        go_simp
        try with_reducible rfl
      try simp only [List.getElem_toArray, List.getElem_cons_zero, List.getElem_cons_succ, Act.put, List.setIfInBounds_toArray, List.set_cons_zero, List.set_cons_succ]
      refine wpAnyH_ready (rs := [18]) (by kernel_rfl) (by simp) ?_
      refine AllReadyH.cons rfl (fun K hK => ?_) ?_
      go_simp
      go_at_call 48; refine (QP.out _ c3).mono ?_; rintro e w4 ⟨va, rfl, hOa, hc4⟩
      go_wp2_with fail
      refine hK.out _ _ (by exact HS.out _ (c3.nil_trans hc4)) (fun hHeld => ?_)
      clear hK K
      try simp only [List.getElem_toArray, List.getElem_cons_zero, List.getElem_cons_succ, Act.put, List.setIfInBounds_toArray, List.set_cons_zero, List.set_cons_succ]
      rotate_left
      exact AllReadyH.nil
      have c4 := c3.nil_trans hc4
      refine wpAnyH_ready (rs := [20]) (by kernel_rfl) (by simp) ?_
      refine AllReadyH.cons rfl (fun K hK => ?_) ?_
      go_simp
      go_at_call 85; refine (QQ.out _ c4).mono ?_; rintro e w5 ⟨ab, capb, rfl, hOb, hc5⟩
      go_wp2_with fail
      refine hK.out _ _ (by exact HS.out _ (c4.nil_trans hc5)) (fun hHeld => ?_)
      clear hK K
      try simp only [List.getElem_toArray, List.getElem_cons_zero, List.getElem_cons_succ, Act.put, List.setIfInBounds_toArray, List.set_cons_zero, List.set_cons_succ]
      rotate_left
      exact AllReadyH.nil
      have c5 := c4.nil_trans hc5
      have hsa := same_calls w5 _ _ G (hOa.hs.chg0 hc5) hOb.hs (by omega)
      refine wpAnyH_ready (rs := [21]) (by kernel_rfl) (by simp) ?_
      refine AllReadyH.cons rfl (fun K hK => ?_) ?_
      go_simp
      go_at_call 86; refine hsa.mono ?_; rintro e w6 ⟨rfl, hc6⟩
      go_wp2_with fail
      refine hK.out _ _ (by exact HS.out _ (c5.nil_trans hc6)) (fun hHeld => ?_)
      clear hK K
      try simp only [List.getElem_toArray, List.getElem_cons_zero, List.getElem_cons_succ, Act.put, List.setIfInBounds_toArray, List.set_cons_zero, List.set_cons_succ]
      rotate_left
      exact AllReadyH.nil
      have c6 := c5.nil_trans hc6
      clear hOa hOb hsa
      refine wpAnyH_take (i := 22) (v := ?_) rfl (by kernel_rfl) (by kernel_rfl) (by kernel_rfl) (fun _ _ _ h => h) (Or.inl ⟨by rfl, ?_⟩) (by first | assumption | exact hHeldX) ?_
      rotate_left
      · intro w hSw
        (try dsimp only at hSw)
        go_simp
        try with_reducible rfl
      try simp only [List.getElem_toArray, List.getElem_cons_zero, List.getElem_cons_succ, Act.put, List.setIfInBounds_toArray, List.set_cons_zero, List.set_cons_succ]
      refine wpAnyH_take (i := 23) (v := ?_) rfl (by kernel_rfl) (by kernel_rfl) (by kernel_rfl) (fun _ _ _ h => h) (Or.inl ⟨by rfl, ?_⟩) (by first | assumption | exact hHeldX) ?_
      rotate_left
      · intro w hSw
        (try dsimp only at hSw)
        go_simp
        try with_reducible rfl
      try simp only [List.getElem_toArray, List.getElem_cons_zero, List.getElem_cons_succ, Act.put, List.setIfInBounds_toArray, List.set_cons_zero, List.set_cons_succ]
      refine wpAnyH_take (i := 24) (v := ?_) rfl (by kernel_rfl) (by kernel_rfl) (by kernel_rfl) (fun _ _ _ h => h) (Or.inl ⟨by rfl, ?_⟩) (by first | assumption | exact hHeldX) ?_
      rotate_left
      · intro w hSw
        (try dsimp only at hSw)
        go_simp
        try with_reducible rfl
      try simp only [List.getElem_toArray, List.getElem_cons_zero, List.getElem_cons_succ, Act.put, List.setIfInBounds_toArray, List.set_cons_zero, List.set_cons_succ]
      refine wpAnyH_take (i := 26) (v := ?_) rfl (by kernel_rfl) (by kernel_rfl) (by kernel_rfl) (fun _ _ _ h => h) (Or.inl ⟨by rfl, ?_⟩) (by first | assumption | exact hHeldX) ?_
      rotate_left
      · intro w hSw
        (try dsimp only at hSw)
        go_simp
        try with_reducible rfl
      try simp only [List.getElem_toArray, List.getElem_cons_zero, List.getElem_cons_succ, Act.put, List.setIfInBounds_toArray, List.set_cons_zero, List.set_cons_succ]
      refine wpAnyH_ready (rs := [25]) (by kernel_rfl) (by simp) ?_
      refine AllReadyH.cons rfl (fun K hK => ?_) ?_
      go_simp
      go_at_call 35; refine (QT.out _ c6).mono ?_; rintro e w7 ⟨rfl, hc7⟩
      go_wp2_with fail
      refine hK.out _ _ (by exact HS.out _ (c6.nil_trans hc7)) (fun hHeld => ?_)
      clear hK K
      try simp only [List.getElem_toArray, List.getElem_cons_zero, List.getElem_cons_succ, Act.put, List.setIfInBounds_toArray, List.set_cons_zero, List.set_cons_succ]
      rotate_left
      exact AllReadyH.nil
      have c7 := c6.nil_trans hc7
      refine wpAnyH_ready (rs := [27]) (by kernel_rfl) (by simp) ?_
      refine AllReadyH.cons rfl (fun K hK => ?_) ?_
      go_simp
      go_at_call 89; refine (QU.out _ c7).mono ?_; rintro e w8 ⟨rfl, hc8⟩
      go_wp2_with fail
      refine hK.out _ _ (by exact HS.out _ (c7.nil_trans hc8)) (fun hHeld => ?_)
      clear hK K
      try simp only [List.getElem_toArray, List.getElem_cons_zero, List.getElem_cons_succ, Act.put, List.setIfInBounds_toArray, List.set_cons_zero, List.set_cons_succ]
      rotate_left
      exact AllReadyH.nil
      have c8 := c7.nil_trans hc8
      refine wpAnyH_take (i := 28) (v := ?_) rfl (by kernel_rfl) (by kernel_rfl) (by kernel_rfl) (fun _ _ _ h => h) (Or.inl ⟨by rfl, ?_⟩) (by first | assumption | exact hHeldX) ?_
      rotate_left
      · intro w hSw
        (try dsimp only at hSw)
        go_simp
        try with_reducible rfl
      try simp only [List.getElem_toArray, List.getElem_cons_zero, List.getElem_cons_succ, Act.put, List.setIfInBounds_toArray, List.set_cons_zero, List.set_cons_succ]
      refine wpAnyH_take (i := 29) (v := ?_) rfl (by kernel_rfl) (by kernel_rfl) (by kernel_rfl) (fun _ _ _ h => h) (Or.inl ⟨by rfl, ?_⟩) (by first | assumption | exact hHeldX) ?_
      rotate_left
      · intro w hSw
        (try dsimp only at hSw)
        go_simp
        try with_reducible rfl
      try simp only [List.getElem_toArray, List.getElem_cons_zero, List.getElem_cons_succ, Act.put, List.setIfInBounds_toArray, List.set_cons_zero, List.set_cons_succ]
      refine wpAnyH_take (i := 30) (v := ?_) rfl (by kernel_rfl) (by kernel_rfl) (by kernel_rfl) (fun _ _ _ h => h) (Or.inl ⟨by rfl, ?_⟩) (by first | assumption | exact hHeldX) ?_
      rotate_left
      · intro w hSw
        (try dsimp only at hSw)
        go_simp
        try with_reducible rfl
      try simp only [List.getElem_toArray, List.getElem_cons_zero, List.getElem_cons_succ, Act.put, List.setIfInBounds_toArray, List.set_cons_zero, List.set_cons_succ]
      refine wpAnyH_take (i := 31) (v := ?_) rfl (by kernel_rfl) (by kernel_rfl) (by kernel_rfl) (fun _ _ _ h => h) (Or.inl ⟨by rfl, ?_⟩) (by first | assumption | exact hHeldX) ?_
      rotate_left
      · intro w hSw
        (try dsimp only at hSw)
        go_simp
        try with_reducible rfl
      try simp only [List.getElem_toArray, List.getElem_cons_zero, List.getElem_cons_succ, Act.put, List.setIfInBounds_toArray, List.set_cons_zero, List.set_cons_succ]
      refine wpAnyH_ready (rs := [32]) (by kernel_rfl) (by simp) ?_
      refine AllReadyH.cons rfl (fun K hK => ?_) ?_
      go_simp
      go_at_call 16; refine (QS.out _ c8).mono ?_; rintro e w9 ⟨rfl, hc9⟩
      go_wp2_with fail
      refine hK.out _ _ (by exact HS.out _ (c8.nil_trans hc9)) (fun hHeld => ?_)
      clear hK K
      try simp only [List.getElem_toArray, List.getElem_cons_zero, List.getElem_cons_succ, Act.put, List.setIfInBounds_toArray, List.set_cons_zero, List.set_cons_succ]
      rotate_left
      exact AllReadyH.nil
      have c9 := c8.nil_trans hc9
      refine wpAnyH_take (i := 33) (v := ?_) rfl (by kernel_rfl) (by kernel_rfl) (by kernel_rfl) (fun _ _ _ h => h) (Or.inl ⟨by rfl, ?_⟩) (by first | assumption | exact hHeldX) ?_
      rotate_left
      · intro w hSw
        (try dsimp only at hSw)
        go_simp
        try with_reducible rfl
      try simp only [List.getElem_toArray, List.getElem_cons_zero, List.getElem_cons_succ, Act.put, List.setIfInBounds_toArray, List.set_cons_zero, List.set_cons_succ]
      refine wpAnyH_take (i := 34) (v := ?_) rfl (by kernel_rfl) (by kernel_rfl) (by kernel_rfl) (fun _ _ _ h => h) (Or.inl ⟨by rfl, ?_⟩) (by first | assumption | exact hHeldX) ?_
      rotate_left
      · intro w hSw
        (try dsimp only at hSw)
        go_simp
        try with_reducible rfl
      try simp only [List.getElem_toArray, List.getElem_cons_zero, List.getElem_cons_succ, Act.put, List.setIfInBounds_toArray, List.set_cons_zero, List.set_cons_succ]
      refine wpAnyH_take (i := 35) (v := ?_) rfl (by kernel_rfl) (by kernel_rfl) (by kernel_rfl) (fun _ _ _ h => h) (Or.inl ⟨by rfl, ?_⟩) (by first | assumption | exact hHeldX) ?_
      rotate_left
      · intro w hSw
        (try dsimp only at hSw)
        go_simp
        try with_reducible rfl
      try simp only [List.getElem_toArray, List.getElem_cons_zero, List.getElem_cons_succ, Act.put, List.setIfInBounds_toArray, List.set_cons_zero, List.set_cons_succ]
      refine wpAnyH_take (i := 36) (v := ?_) rfl (by kernel_rfl) (by kernel_rfl) (by kernel_rfl) (fun _ _ _ h => h) (Or.inl ⟨by rfl, ?_⟩) (by first | assumption | exact hHeldX) ?_
      rotate_left
      · intro w hSw
        (try dsimp only at hSw)
        go_simp
        try with_reducible rfl
      try simp only [List.getElem_toArray, List.getElem_cons_zero, List.getElem_cons_succ, Act.put, List.setIfInBounds_toArray, List.set_cons_zero, List.set_cons_succ]
      refine wpAnyH_take (i := 39) (v := ?_) rfl (by kernel_rfl) (by kernel_rfl) (by kernel_rfl) (fun _ _ _ h => h) (Or.inl ⟨by rfl, ?_⟩) (by first | assumption | exact hHeldX) ?_
      rotate_left
      · intro w hSw
        (try dsimp only at hSw)
        go_simp
        try with_reducible rfl
      try simp only [List.getElem_toArray, List.getElem_cons_zero, List.getElem_cons_succ, Act.put, List.setIfInBounds_toArray, List.set_cons_zero, List.set_cons_succ]
      refine wpAnyH_take (i := 40) (v := ?_) rfl (by kernel_rfl) (by kernel_rfl) (by kernel_rfl) (fun _ _ _ h => h) (Or.inl ⟨by rfl, ?_⟩) (by first | assumption | exact hHeldX) ?_
      rotate_left
      · intro w hSw
        (try dsimp only at hSw)
        go_simp
        try with_reducible rfl
      try simp only [List.getElem_toArray, List.getElem_cons_zero, List.getElem_cons_succ, Act.put, List.setIfInBounds_toArray, List.set_cons_zero, List.set_cons_succ]
      refine wpAnyH_take (i := 41) (v := ?_) rfl (by kernel_rfl) (by kernel_rfl) (by kernel_rfl) (fun _ _ _ h => h) (Or.inl ⟨by rfl, ?_⟩) (by first | assumption | exact hHeldX) ?_
      rotate_left
      · intro w hSw
        (try dsimp only at hSw)
        go_simp
        try with_reducible rfl
      try simp only [List.getElem_toArray, List.getElem_cons_zero, List.getElem_cons_succ, Act.put, List.setIfInBounds_toArray, List.set_cons_zero, List.set_cons_succ]
      refine wpAnyH_take (i := 42) (v := ?_) rfl (by kernel_rfl) (by kernel_rfl) (by kernel_rfl) (fun _ _ _ h => h) (Or.inl ⟨by rfl, ?_⟩) (by first | assumption | exact hHeldX) ?_
      rotate_left
      · intro w hSw
        (try dsimp only at hSw)
        obtain ⟨hSw1, hSw2, hSw3, hSw4⟩ := hSw
        go_simp
        try with_reducible rfl
      try simp only [List.getElem_toArray, List.getElem_cons_zero, List.getElem_cons_succ, Act.put, List.setIfInBounds_toArray, List.set_cons_zero, List.set_cons_succ]
      refine wpAnyH_ready (rs := [37]) (by kernel_rfl) (by simp) ?_
      refine AllReadyH.cons rfl (fun K hK => ?_) ?_
      go_simp
      go_at_call 16; refine (QS.out _ c9).mono ?_; rintro e w10 ⟨rfl, hc10⟩
      go_wp2_with fail
      refine hK.out _ _ (by exact HS.out _ (c9.nil_trans hc10)) (fun hHeld => ?_)
      clear hK K
      try simp only [List.getElem_toArray, List.getElem_cons_zero, List.getElem_cons_succ, Act.put, List.setIfInBounds_toArray, List.set_cons_zero, List.set_cons_succ]
      rotate_left
      exact AllReadyH.nil
      have c10 := c9.nil_trans hc10
      refine wpAnyH_ready (rs := [38]) (by kernel_rfl) (by simp) ?_
      refine AllReadyH.cons rfl (fun K hK => ?_) ?_
      go_simp
      go_at_call 102; refine (QE.out _ c10).mono ?_; rintro e w11 ⟨rfl, hc11⟩
      go_wp2_with fail
      refine hK.out _ _ (by exact HS.out _ (c10.nil_trans hc11)) (fun hHeld => ?_)
      clear hK K
      try simp only [List.getElem_toArray, List.getElem_cons_zero, List.getElem_cons_succ, Act.put, List.setIfInBounds_toArray, List.set_cons_zero, List.set_cons_succ]
      rotate_left
      exact AllReadyH.nil
      have c11 := c10.nil_trans hc11
      refine wpAnyH_ready (rs := [43]) (by kernel_rfl) (by simp) ?_
      refine AllReadyH.cons rfl (fun K hK => ?_) ?_
      go_simp
      go_at_call 100; refine (QL.out _ c11).mono ?_; rintro e w12 ⟨rfl, hc12⟩
      go_wp2_with fail
      refine hK.out _ _ (by exact HS.out _ (c11.nil_trans hc12)) (fun hHeld => ?_)
      clear hK K
      try simp only [List.getElem_toArray, List.getElem_cons_zero, List.getElem_cons_succ, Act.put, List.setIfInBounds_toArray, List.set_cons_zero, List.set_cons_succ]
      rotate_left
      exact AllReadyH.nil
      refine wpAnyH_take (i := 44) (v := ?_) rfl (by kernel_rfl) (by kernel_rfl) (by kernel_rfl) (fun _ _ _ h => h) (Or.inl ⟨by rfl, ?_⟩) (by first | assumption | exact hHeldX) ?_
      rotate_left
      · intro w hSw
        (try dsimp only at hSw)
        go_simp
        try with_reducible rfl
      try simp only [List.getElem_toArray, List.getElem_cons_zero, List.getElem_cons_succ, Act.put, List.setIfInBounds_toArray, List.set_cons_zero, List.set_cons_succ]
      refine wpAnyH_take (i := 45) (v := ?_) rfl (by kernel_rfl) (by kernel_rfl) (by kernel_rfl) (fun _ _ _ h => h) (Or.inl ⟨by rfl, ?_⟩) (by first | assumption | exact hHeldX) ?_
      rotate_left
      · intro w hSw
        (try dsimp only at hSw)
        go_simp
        try with_reducible rfl
      try simp only [List.getElem_toArray, List.getElem_cons_zero, List.getElem_cons_succ, Act.put, List.setIfInBounds_toArray, List.set_cons_zero, List.set_cons_succ]
      refine wpAnyH_take (i := 46) (v := ?_) rfl (by kernel_rfl) (by kernel_rfl) (by kernel_rfl) (fun _ _ _ h => h) (Or.inl ⟨by rfl, ?_⟩) (by first | assumption | exact hHeldX) ?_
      rotate_left
      · intro w hSw
        (try dsimp only at hSw)
        go_simp
        try with_reducible rfl
      try simp only [List.getElem_toArray, List.getElem_cons_zero, List.getElem_cons_succ, Act.put, List.setIfInBounds_toArray, List.set_cons_zero, List.set_cons_succ]
      refine wpAnyH_done (by kernel_rfl) ?_ _
      refine NoPanic.normal ?_
      go_wp2
      go_ret
      exact ⟨rfl, c11.nil_trans hc12⟩
end
end Go.Proofs.YtpklkefnmoaaaaaGreatDoor

/- Texts put into one by pack.py: HandK GrD. -/
import Derived.Deep.RegionHeld3
import Derived.Deep.MidRow
import Derived.Test.YtnodjlgihhinpaaDoorRng
import Derived.Test.YtnodjlgihhinpaaDoorGrM
import Derived.Test.YtnodjlgihhinpaaDoorLwR
import Derived.Test.YtnodjlgihhinpaaDoorLwAw
/- A region walked by hand: the condition on the world may be made stronger on the way (what a call of the region has made is known from there on). Nothing of a program. -/
namespace Go.Proofs.YtnodjlgihhinpaaDoor
open Go.RowKit
set_option linter.unusedVariables false
set_option linter.unusedSimpArgs false
theorem wpAnyH_more {P : Program} {md : Region.Mode} {ops : Array Oper} {Q : Exit → Act → World → Prop} {S S' : World → Prop} (hi : ∀ w, S' w → S w) :
    ∀ (fuel : Nat) (listed : Array Bool) (a : Act) (w : World), wpAnyH P md ops Q S' fuel listed a w → wpAnyH P md ops Q S fuel listed a w
  | 0, _, _, _, h => h
  | fuel + 1, _, _, _, h => ⟨h.1, fun i hi' => wpOp_mono (fun a' w' h' => ⟨hi _ h'.1, wpAnyH_more hi fuel _ a' w' h'.2⟩) (h.2 i hi')⟩
end Go.Proofs.YtnodjlgihhinpaaDoor

/- MmrGrown walked. -/
namespace Go.Proofs.YtnodjlgihhinpaaDoor
open Go.RowKit
set_option linter.unusedVariables false
set_option linter.unusedSimpArgs false

theorem HsIs.takeG {w : World} {a : Option Addr} {m cap : Nat} {l : List (Array Value)} (h : HsIs w (.slice a m cap) l) (n : Nat) (hn : n ≤ l.length) : HsIs w (.slice a n cap) (l.take n) := by
  obtain ⟨hI, a', cap', hv, hr⟩ := h
  injection hv with h1 h2 h3
  subst h1 h3
  refine ⟨fun x hx => hI x (List.mem_of_mem_take hx), a, cap, by rw [List.length_take, Nat.min_eq_left hn], ?_⟩
  rcases hr with hr | ⟨b, o, ha, hb, hr⟩
  · exact .inl (by rw [hr]; simp)
  · refine .inr ⟨b, o, ha, hb, fun i hi => ?_⟩
    have hi2 : i < l.length := by rw [List.length_take] at hi; omega
    rw [hr i hi2, List.getElem_take]
theorem HOwn.rowsG {w : World} {B : Nat} {v : Value} {l : List (Array Value)} (h : HOwn w B v l) : ∃ a cap, v = .slice a l.length cap ∧ ∀ i (hi : i < l.length), ∃ g, a = some ⟨g, 0, none⟩ ∧ g < w.heap.size ∧ rng? w g (i * 32) 32 = some l[i] := by
  obtain ⟨hI, a, cap, rfl, hr⟩ := h.hs
  refine ⟨a, cap, rfl, fun i hi => ?_⟩
  rcases hr with q | ⟨g, o, rfl, hg, hr⟩
  · rw [q] at hi; simp at hi
  · rcases h.1.2 with ⟨hv, h0⟩ | ⟨g', cap', cur, hv, hb, _⟩
    · cases hv
    · injection hv with e1
      injection e1 with e1
      injection e1 with e1 e2
      subst e1 e2
      refine ⟨g, rfl, hg, ?_⟩
      have := hr i hi
      rwa [Nat.zero_add] at this
set_option maxRecDepth 100000 in
set_option maxHeartbeats 8000000 in
theorem grown_main (w : World) (wd : Int) (hwd : -9223372036854775808 ≤ wd ∧ wd < 9223372036854775808) (lv : Value) (ls0 : List (Array Value)) (hv0 : HsIs w lv ls0) (hcap : ∀ a n cap, lv = .slice a n cap → n ≤ cap ∧ cap ≤ 9223372036854775807) (h : Nat) (hh : h ≤ 7) (hle : 2 ^ h ≤ ls0.length) (hk : HIs w) :
    Calls Tryd.prog 4 #[.int .i64 wd, lv, .int .i64 h] w (Res w [] (.bool true)) := by
  obtain ⟨w0, rfl⟩ : ∃ w0 : World, w0 = w := ⟨_, rfl⟩
  obtain ⟨a, cap, rfl⟩ : ∃ a cap, lv = .slice a ls0.length cap := by obtain ⟨_, a, cap, q, _⟩ := hv0; exact ⟨a, cap, q⟩
  obtain ⟨hcp, hcp2⟩ := hcap _ _ _ rfl
  have hv := hv0.takeG (2 ^ h) hle
  have hN : 2 ^ h ≤ 128 := by have : 2 ^ h ≤ 2 ^ 7 := Nat.pow_le_pow_right (by omega) hh; exact this
  have hN1 := Nat.two_pow_pos h
  have hpk := peaks_pow h hh
  have hnd := nodes_2pow h
  have hpc := popc_2pow h
  have hshl : (2 : Int) ^ h = ((2 ^ h : Nat) : Int) := by simp
  have hlen : (ls0.take (2 ^ h)).length = 2 ^ h := by rw [List.length_take]; omega
  obtain ⟨N, hNe⟩ : ∃ N, 2 ^ h = N := ⟨_, rfl⟩
  rw [hNe] at hv hN hN1 hpk hnd hpc hlen hle hshl
  generalize ls0.take N = ls at *
  have hof := of_calls w0 wd hwd _ ls hv (by omega) hk
  have hrw := fun (W : World) (hW : Chg [] w0 W) => row_calls W _ ls (hv.chg0 hW) (by omega)
  have HOF := Lib.hid hof
  have HRW := Lib.hid hrw
  have HLEN := Lib.hid hlen
  have HNE := Lib.hid hNe
  have HPK := Lib.hid hpk
  have HND := Lib.hid hnd
  have HPC := Lib.hid hpc
  have HSH := Lib.hid hshl
  clear hof hrw hv0 hcap hpk hnd hpc hshl hNe
  have hwr : wrap64 (2 ^ h) = (N : Int) := by rw [HSH.out]; exact IntWalk.wrap64_in (N : Int) (by omega)
  have hwr2 : wrap64 (2 * 2 ^ h) = 2 * (N : Int) := by rw [HSH.out]; exact IntWalk.wrap64_in (2 * (N : Int)) (by omega)
  have h0 : decide ((h : Int) < 0) = false := by simp
  have h7 : decide ((7 : Int) < (h : Int)) = false := by simp; omega
  go_enter Tryd.func4, Tryd.ntmps4
  go_wp2_with fail
  go_at_call 14
  refine HOF.out.mono ?_
  rintro e w1 ⟨b, t, rfl, hT⟩
  go_wp2_with fail
  go_at_call 6
  refine (HRW.out _ hT.chg).mono ?_
  rintro e w2 ⟨g, gcap, rfl, hgc, hgl, hO1, hO2, hc2⟩
  have hc02 := hT.chg.nil_trans hc2
  have hgr := mgrow_calls w2 wd hwd _ ls hO2.hs (by rw [HLEN.out]; omega) (by rw [HLEN.out]; exact HPC.out) (hk.chg0 hc02)
  have HGR := Lib.hid hgr
  rw [HLEN.out] at HGR
  rw [HLEN.out]
  clear hgr hO1 hgc
  go_wp2_with fail
  go_at_call 8
  refine HGR.out.mono ?_
  rintro e w3 ⟨v, rfl, hG, hc3⟩
  have hc03 := hc02.nil_trans hc3
  obtain ⟨ga, gvc, rfl, hrows⟩ := hG.rowsG
  have hgl2 : (growL wd ls).length = 2 * N - 1 := by rw [grow_len, HLEN.out, HND.out]
  obtain ⟨M, hM⟩ : ∃ M, 2 * N - 1 = M := ⟨_, rfl⟩
  have hMi : (M : Int) = 2 * (N : Int) - 1 := by omega
  rw [hM] at hgl2
  have hMb : ((M : Int) != 2 * (N : Int) - 1) = false := by rw [hMi]; simp
  have hel : ∀ p (hp : p < M), ∃ gb, ga = some ⟨gb, 0, none⟩ ∧ gb < w3.heap.size ∧ rng? w3 gb (p * 32) 32 = some ((treeV (widthI wd) ls).get p) := fun p hp => by
    obtain ⟨gb, h1, h2, h3⟩ := hrows p (by rw [hgl2]; exact hp)
    refine ⟨gb, h1, h2, ?_⟩
    rw [h3]
    simp [growL]
  rw [hgl2]
  have HEL := Lib.hid hel
  have HM := Lib.hid hM
  have HMI := Lib.hid hMi
  have hT3 := (hT.chg0 hc2).chg0 hc3
  have HT := Lib.hid hT3
  have hMl : M ≤ 1000 := by omega
  have hM0 : 0 < M := by omega
  clear hrows hel hM hMi hgl2 hG hT hT3 hO2 hgl
  go_wp2_with fail
  clear hwr hwr2
  go_loopg [11] M (fun gk pp wx => ∃ p, p ≤ M ∧ gk = M - p ∧ pp = .int .i64 p ∧ Chg [] w3 wx)
  case atStart => exact ⟨0, by omega, by omega, rfl, Chg.refl _ _⟩
  case round =>
    obtain ⟨p, hpl, hg, rfl, hC⟩ := hrel
    by_cases hlt : p < M
    · have hTr := HT.out.chg0 hC
      have hnode := hTr.nodeCall p (by rw [HLEN.out, HND.out, HM.out]; exact hlt) (by rw [HLEN.out]; omega)
      obtain ⟨gb, rfl, hgb, hrow⟩ := HEL.out p hlt
      have hix := treeV_is wd ls hTr p
      have heq : eqH ((treeV (widthI wd) ls).get p) ((treeV (widthI wd) ls).get p) = true := eqH_self
      have hs1 := hix.1
      have hs2 := hix.one
      have n0 : (0 : Int) ≤ (p : Int) := by omega
      have n1 : (p : Int) < (M : Int) := by omega
      have pb : (p : Int) < 1000 := by omega
      have HN := Lib.hid hnode
      have HG := Lib.hid hg
      have hrowC := fun W (hW : Chg [] w3 W) => rng?_chg hW hrow (by omega) (by simp)
      have hgbC := fun W (hW : Chg [] w3 W) => Nat.lt_of_lt_of_le hgb hW.size
      clear hnode hTr hg hrow hgb
      generalize (treeV (widthI wd) ls).get p = X at *
      have HRC := Lib.hid hrowC
      have HGC := Lib.hid hgbC
      clear hrowC hgbC
      go_upto_region 12 with (go_at_call 15; refine HN.out.mono ?_; rintro e w4 ⟨rfl, hc4⟩)
      have hcX : Chg [] w3 (w4.alloc (.cells X 37)) := (hC.nil_trans hc4).alloc _
      have r1 := rng?_alloc_at w4 w4.heap.size 32 X 37 rfl hs1
      have r2 := HRC.out _ hcX
      have l1 := World.block_lt_of_cell? _ _ ((rng?_cell r1).2 0 (by omega))
      have l2 := HGC.out _ hcX
      generalize w4.alloc (.cells X 37) = w6 at *
      generalize w4.heap.size = g27 at *
      go_quiet (fail)
      go_wp2
      go_roundg (M - (p + 1))
      case measure => rw [HG.out]; omega
      case rel => exact ⟨p + 1, by omega, rfl, by go_num, hcX.drewN _⟩
    · obtain rfl : p = M := by omega
      have hTr := HT.out.chg0 hC
      have hpeaks := fun (W : World) (hW : Chg [] wr W) => (hTr.chg0 hW).peaksCall (by rw [HLEN.out]; omega)
      have hpv : peaksV wd ls = [(treeV (widthI wd) ls).get (p - 1)] := by
        unfold peaksV
        rw [HLEN.out, HPK.out, List.map_cons, List.map_nil, show 2 * N - 2 = p - 1 from by have := HM.out; omega]
      rw [hpv] at hpeaks
      obtain ⟨gb, rfl, hgb, hrow⟩ := HEL.out (p - 1) (by omega)
      have hix := treeV_is wd ls hTr (p - 1)
      have heq : eqH ((treeV (widthI wd) ls).get (p - 1)) ((treeV (widthI wd) ls).get (p - 1)) = true := eqH_self
      have hs1 := hix.1
      have hs2 := hix.one
      have hct := hc03.nil_trans hC
      have haw := fun (W : World) (hW : Chg [] wr W) => awake_calls W (hk.chg0 (hct.nil_trans hW))
      obtain ⟨q, hq⟩ : ∃ q, p = q + 1 := ⟨p - 1, by omega⟩
      subst hq
      rw [Nat.add_sub_cancel] at hrow hpeaks hix heq hs1 hs2
      have hrowC := fun W (hW : Chg [] wr W) => rng?_chg (hC.nil_trans hW) hrow (by omega) (by simp)
      have hgbC := fun W (hW : Chg [] wr W) => Nat.lt_of_lt_of_le hgb (hC.nil_trans hW).size
      have hpc : ∀ W, Chg [] wr W → Calls Tryd.prog 16 #[.pointer (some ⟨b, 0, none⟩)] W (fun e w' => ∃ g2 cap2, e = .returned (.slice (some ⟨g2, 0, none⟩) 1 cap2) ∧ Chg [] W w' ∧ g2 < w'.heap.size ∧ rng? w' g2 0 32 = some ((treeV (widthI wd) ls).get q)) := fun W hW => by
        refine (hpeaks W hW).mono ?_
        rintro e w' ⟨v, rfl, hO, hc⟩
        obtain ⟨a2, cap2, rfl, hrr⟩ := hO.rowsG
        obtain ⟨g2, rfl, h1, h2⟩ := hrr 0 (by simp)
        rw [Nat.zero_mul] at h2
        exact ⟨g2, cap2, rfl, hc, h1, h2⟩
      generalize (treeV (widthI wd) ls).get q = X at *
      have HPC := Lib.hid hpc
      have HAW := Lib.hid haw
      have hcd : Chg [] wr wr.drew := (Chg.refl _ _).drew
      obtain ⟨xl, hxl⟩ : ∃ xl : List Value, X = xl.toArray := ⟨X.toList, Array.toArray_toList.symm⟩
      subst hxl
      have hS1 : ∀ W : World, Chg [] wr W → W.rangeAt gb (q * 32) xl := fun W hc => rng?_range (rng?_chg (hC.nil_trans hc) hrow (by omega) (by simp))
      have hu1 : Tryd.prog.underlying 37 = _ := u_Hash
      have hi1 : (Tryd.prog.info? 37).map (·.size) = some xl.length := by rw [show xl.length = 32 from by simpa using hs1]; kernel_rfl
      have q0 : (0 : Int) ≤ (q : Int) := by omega
      have q1 : (((q + 1 : Nat) : Int)) - 1 = (q : Int) := by omega
      have qb : (q : Int) < 1000 := by omega
      have hq2 : ((q : Int) + 1) - 1 = (q : Int) := by omega
      have qw : IntKind.i64.wrap (q : Int) = (q : Int) := IntWalk.i64_in _ (by omega)
      have qlt : (q : Int) < (q : Int) + 1 := by omega
      clear hpc hpeaks hrowC hgbC haw hTr hrow hpv hg
      go_upto_region 14 with (fail)
      refine wp_region_noPanic ?_
      refine wp_region_held_drew (S := (fun W => W.rangeAt gb (q * 32) xl)) (by kernel_rfl) (by exact hS1 _ hcd) (fun hHeld => ?_)
      have hHeldX := hHeld
      refine wpAnyH_take (i := 0) (v := ?_) rfl (by kernel_rfl) (by kernel_rfl) (by kernel_rfl) (fun _ _ _ h => h) (Or.inl ⟨by rfl, ?_⟩) (by first | assumption | exact hHeldX) ?_
      rotate_left
      · intro w hSw
        (try dsimp only at hSw)
        go_simp
        try with_reducible rfl
      try simp only [List.getElem_toArray, List.getElem_cons_zero, List.getElem_cons_succ, Act.put, List.setIfInBounds_toArray, List.set_cons_zero, List.set_cons_succ]
      refine wpAnyH_ready (rs := [1]) (by kernel_rfl) (by simp) ?_
      refine AllReadyH.cons rfl (fun K hK => ?_) ?_
      go_simp
      go_at_call 16; refine (HPC.out _ hcd).mono ?_; rintro e wj ⟨g2, cap2, rfl, hcj, hl2, hr2⟩; have hCj : Chg [] wr wj := hcd.nil_trans hcj
      go_wp2_with fail
      refine hK.out _ _ (by exact hS1 _ (by assumption)) (fun hHeld => ?_)
      clear hK K
      try simp only [List.getElem_toArray, List.getElem_cons_zero, List.getElem_cons_succ, Act.put, List.setIfInBounds_toArray, List.set_cons_zero, List.set_cons_succ]
      rotate_left
      exact AllReadyH.nil
      refine wpAnyH_take (i := 2) (v := ?_) rfl (by kernel_rfl) (by kernel_rfl) (by kernel_rfl) (fun _ _ _ h => h) (Or.inl ⟨by rfl, ?_⟩) (by first | assumption | exact hHeldX) ?_
      rotate_left
      · intro w hSw
        (try dsimp only at hSw)
        go_simp
        try with_reducible rfl
      try simp only [List.getElem_toArray, List.getElem_cons_zero, List.getElem_cons_succ, Act.put, List.setIfInBounds_toArray, List.set_cons_zero, List.set_cons_succ]
      refine wpAnyH_take (i := 3) (v := ?_) rfl (by kernel_rfl) (by kernel_rfl) (by kernel_rfl) (fun _ _ _ h => h) (Or.inl ⟨by rfl, ?_⟩) (by first | assumption | exact hHeldX) ?_
      rotate_left
      · intro w hSw
        (try dsimp only at hSw)
        go_simp
        try with_reducible rfl
      try simp only [List.getElem_toArray, List.getElem_cons_zero, List.getElem_cons_succ, Act.put, List.setIfInBounds_toArray, List.set_cons_zero, List.set_cons_succ]
      refine wpAnyH_take (i := 4) (v := ?_) rfl (by kernel_rfl) (by kernel_rfl) (by kernel_rfl) (fun _ _ _ h => h) (Or.inl ⟨by rfl, ?_⟩) (by first | assumption | exact hHeldX) ?_
      rotate_left
      · intro w hSw
        (try dsimp only at hSw)
        go_simp
        try with_reducible rfl
      try simp only [List.getElem_toArray, List.getElem_cons_zero, List.getElem_cons_succ, Act.put, List.setIfInBounds_toArray, List.set_cons_zero, List.set_cons_succ]
      refine wpAnyH_take (i := 5) (v := ?_) rfl (by kernel_rfl) (by kernel_rfl) (by kernel_rfl) (fun _ _ _ h => h) (Or.inl ⟨by rfl, ?_⟩) (by first | assumption | exact hHeldX) ?_
      rotate_left
      · intro w hSw
        (try dsimp only at hSw)
        go_simp
        try with_reducible rfl
      try simp only [List.getElem_toArray, List.getElem_cons_zero, List.getElem_cons_succ, Act.put, List.setIfInBounds_toArray, List.set_cons_zero, List.set_cons_succ]
      refine wpAnyH_take (i := 9) (v := ?_) rfl (by kernel_rfl) (by kernel_rfl) (by kernel_rfl) (fun _ _ _ h => h) (Or.inl ⟨by rfl, ?_⟩) (by first | assumption | exact hHeldX) ?_
      rotate_left
      · intro w hSw
        (try dsimp only at hSw)
        go_simp
        try with_reducible rfl
      try simp only [List.getElem_toArray, List.getElem_cons_zero, List.getElem_cons_succ, Act.put, List.setIfInBounds_toArray, List.set_cons_zero, List.set_cons_succ]
      refine wpAnyH_take (i := 10) (v := ?_) rfl (by kernel_rfl) (by kernel_rfl) (by kernel_rfl) (fun _ _ _ h => h) (Or.inl ⟨by rfl, ?_⟩) (by first | assumption | exact hHeldX) ?_
      rotate_left
      · intro w hSw
        (try dsimp only at hSw)
        go_simp
        try with_reducible rfl
      try simp only [List.getElem_toArray, List.getElem_cons_zero, List.getElem_cons_succ, Act.put, List.setIfInBounds_toArray, List.set_cons_zero, List.set_cons_succ]
      refine wpAnyH_take (i := 11) (v := ?_) rfl (by kernel_rfl) (by kernel_rfl) (by kernel_rfl) (fun _ _ _ h => h) (Or.inl ⟨by rfl, ?_⟩) (by first | assumption | exact hHeldX) ?_
      rotate_left
      · intro w hSw
        (try dsimp only at hSw)
        go_simp
        try with_reducible rfl
      try simp only [List.getElem_toArray, List.getElem_cons_zero, List.getElem_cons_succ, Act.put, List.setIfInBounds_toArray, List.set_cons_zero, List.set_cons_succ]
      refine wpAnyH_take (i := 12) (v := ?_) rfl (by kernel_rfl) (by kernel_rfl) (by kernel_rfl) (fun _ _ _ h => h) (Or.inl ⟨by rfl, ?_⟩) (by first | assumption | exact hHeldX) ?_
      rotate_left
      · intro w hSw
        (try dsimp only at hSw)
        go_simp
        try with_reducible rfl
      try simp only [List.getElem_toArray, List.getElem_cons_zero, List.getElem_cons_succ, Act.put, List.setIfInBounds_toArray, List.set_cons_zero, List.set_cons_succ]
      refine wpAnyH_take (i := 13) (v := ?_) rfl (by kernel_rfl) (by kernel_rfl) (by kernel_rfl) (fun _ _ _ h => h) (Or.inl ⟨by rfl, ?_⟩) (by first | assumption | exact hHeldX) ?_
      rotate_left
      · intro w hSw
        (try dsimp only at hSw)
        go_simp
        try with_reducible rfl
      try simp only [List.getElem_toArray, List.getElem_cons_zero, List.getElem_cons_succ, Act.put, List.setIfInBounds_toArray, List.set_cons_zero, List.set_cons_succ]
      refine' wpAnyH_take (i := 14) (v := _) rfl (by kernel_rfl) (by kernel_rfl) (by kernel_rfl) (fun _ _ _ h => h) (yieldsIf_load_mid (by rfl) _ _ rfl _ _ rfl _ _ ?hSz14 ?huz14 ?hdz14 ?hiz14) (by first | assumption | exact hHeldX) ?restz14
      case hSz14 => (intro w hSw; (try dsimp only at hSw); obtain _ := hSw; assumption)
      case huz14 => assumption
      case hdz14 => rfl
      case hiz14 => assumption
      case' restz14 => skip
      try simp only [List.getElem_toArray, List.getElem_cons_zero, List.getElem_cons_succ, Act.put, List.setIfInBounds_toArray, List.set_cons_zero, List.set_cons_succ]
      refine wpAnyH_ready (rs := [6]) (by kernel_rfl) (by simp) ?_
      refine AllReadyH.cons rfl (fun K hK => ?_) ?_
      go_simp
      go_at_call 16; refine (HPC.out _ (by assumption)).mono ?_; rintro e wq ⟨g3, cap3, rfl, hcq, hl3, hr3⟩; have hCq : Chg [] wr wq := Chg.nil_trans (by assumption) hcq
      go_wp2_with fail
      refine hK.out _ _ (by exact hS1 _ (by assumption)) (fun hHeld => ?_)
      clear hK K
      try simp only [List.getElem_toArray, List.getElem_cons_zero, List.getElem_cons_succ, Act.put, List.setIfInBounds_toArray, List.set_cons_zero, List.set_cons_succ]
      rotate_left
      exact AllReadyH.nil
      refine wpAnyH_more (S' := fun W => W.rangeAt g3 0 xl ∧ W.rangeAt gb (q * 32) xl) (fun _ h => h.2) _ _ _ _ ?_
      have hHeldX : wq.rangeAt g3 0 xl ∧ wq.rangeAt gb (q * 32) xl := ⟨rng?_range hr3, hS1 _ hCq⟩
      refine wpAnyH_take (i := 7) (v := ?_) rfl (by kernel_rfl) (by kernel_rfl) (by kernel_rfl) (fun _ _ _ h => h) (Or.inl ⟨by rfl, ?_⟩) (by first | assumption | exact hHeldX) ?_
      rotate_left
      · intro w hSw
        (try dsimp only at hSw)
        go_simp
        try with_reducible rfl
      try simp only [List.getElem_toArray, List.getElem_cons_zero, List.getElem_cons_succ, Act.put, List.setIfInBounds_toArray, List.set_cons_zero, List.set_cons_succ]
      refine' wpAnyH_take (i := 8) (v := _) rfl (by kernel_rfl) (by kernel_rfl) (by kernel_rfl) (fun _ _ _ h => h) (yieldsIf_load_mid (by rfl) _ _ rfl _ _ rfl _ _ ?hSz8 ?huz8 ?hdz8 ?hiz8) (by first | assumption | exact hHeldX) ?restz8
      case hSz8 => (intro w hSw; (try dsimp only at hSw); obtain ⟨_, _⟩ := hSw; assumption)
      case huz8 => assumption
      case hdz8 => rfl
      case hiz8 => assumption
      case' restz8 => skip
      try simp only [List.getElem_toArray, List.getElem_cons_zero, List.getElem_cons_succ, Act.put, List.setIfInBounds_toArray, List.set_cons_zero, List.set_cons_succ]
      refine wpAnyH_take (i := 15) (v := ?_) rfl (by kernel_rfl) (by kernel_rfl) (by kernel_rfl) (fun _ _ _ h => h) (Or.inl ⟨by rfl, ?_⟩) (by first | assumption | exact hHeldX) ?_
      rotate_left
      · intro w hSw
        (try dsimp only at hSw)
        go_simp
        try with_reducible rfl
      try simp only [List.getElem_toArray, List.getElem_cons_zero, List.getElem_cons_succ, Act.put, List.setIfInBounds_toArray, List.set_cons_zero, List.set_cons_succ]
      refine wpAnyH_take (i := 16) (v := ?_) rfl (by kernel_rfl) (by kernel_rfl) (by kernel_rfl) (fun _ _ _ h => h) (Or.inl ⟨by rfl, ?_⟩) (by first | assumption | exact hHeldX) ?_
      rotate_left
      · intro w hSw
        (try dsimp only at hSw)
        go_simp
        try with_reducible rfl
      try simp only [List.getElem_toArray, List.getElem_cons_zero, List.getElem_cons_succ, Act.put, List.setIfInBounds_toArray, List.set_cons_zero, List.set_cons_succ]
      refine wpAnyH_take (i := 17) (v := ?_) rfl (by kernel_rfl) (by kernel_rfl) (by kernel_rfl) (fun _ _ _ h => h) (Or.inl ⟨by rfl, ?_⟩) (by first | assumption | exact hHeldX) ?_
      rotate_left
      · intro w hSw
        (try dsimp only at hSw)
        go_simp
        try with_reducible rfl
      try simp only [List.getElem_toArray, List.getElem_cons_zero, List.getElem_cons_succ, Act.put, List.setIfInBounds_toArray, List.set_cons_zero, List.set_cons_succ]
      refine wpAnyH_ready (rs := [18]) (by kernel_rfl) (by simp) ?_
      refine AllReadyH.cons rfl (fun K hK => ?_) ?_
      go_simp
      go_at_call 13; refine (HAW.out _ hCq).mono ?_; rintro e wz ⟨rfl, hcz⟩; have hCz : Chg [] wr wz := hCq.nil_trans hcz
      go_wp2_with fail
      refine hK.out _ _ (by exact ⟨rng?_range (rng?_chg hcz hr3 (by omega) (by simp)), hS1 _ hCz⟩) (fun hHeld => ?_)
      clear hK K
      try simp only [List.getElem_toArray, List.getElem_cons_zero, List.getElem_cons_succ, Act.put, List.setIfInBounds_toArray, List.set_cons_zero, List.set_cons_succ]
      rotate_left
      exact AllReadyH.nil
      refine wpAnyH_take (i := 19) (v := ?_) rfl (by kernel_rfl) (by kernel_rfl) (by kernel_rfl) (fun _ _ _ h => h) (Or.inl ⟨by rfl, ?_⟩) (by first | assumption | exact hHeldX) ?_
      rotate_left
      · intro w hSw
        (try dsimp only at hSw)
        go_simp
        try with_reducible rfl
      try simp only [List.getElem_toArray, List.getElem_cons_zero, List.getElem_cons_succ, Act.put, List.setIfInBounds_toArray, List.set_cons_zero, List.set_cons_succ]
      refine wpAnyH_take (i := 20) (v := ?_) rfl (by kernel_rfl) (by kernel_rfl) (by kernel_rfl) (fun _ _ _ h => h) (Or.inl ⟨by rfl, ?_⟩) (by first | assumption | exact hHeldX) ?_
      rotate_left
      · intro w hSw
        (try dsimp only at hSw)
        go_simp
        try with_reducible rfl
      try simp only [List.getElem_toArray, List.getElem_cons_zero, List.getElem_cons_succ, Act.put, List.setIfInBounds_toArray, List.set_cons_zero, List.set_cons_succ]
      refine wpAnyH_done (by kernel_rfl) ?_ _
      refine NoPanic.normal ?_
      go_wp2
      go_ret
      exact ⟨rfl, hct.nil_trans hCz⟩
end Go.Proofs.YtnodjlgihhinpaaDoor

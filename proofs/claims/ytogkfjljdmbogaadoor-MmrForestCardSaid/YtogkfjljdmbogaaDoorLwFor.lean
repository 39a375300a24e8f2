/- MmrForest walked. -/
import Derived.Test.YtogkfjljdmbogaaDoorLwD
import Derived.Test.YtogkfjljdmbogaaDoorPsC
import Derived.Test.YtogkfjljdmbogaaDoorLwAw
import Derived.Deep.RegionHeld3
import Derived.Deep.MidRow
namespace Go.Proofs.YtogkfjljdmbogaaDoor
open Go.RowKit
set_option linter.unusedVariables false
set_option linter.unusedSimpArgs false

/-- The peaks folded so far lie in a box. -/
structure AccI (w0 wr : World) (L : Nat) (wd : Int) (hs : List (Array Value)) (c : Nat) : Prop where
  box : wr.heap[L]? = some (.cells (accA wd (hs.drop c)) 26 (0, 0))
  chg : Chg [] w0 wr
  low : w0.heap.size ≤ L
theorem AccI.set {w0 wr W : World} {L : Nat} {wd : Int} {hs : List (Array Value)} {c c' : Nat} {x : Array Value} (h : AccI w0 wr L wd hs c) (hW : Chg [] wr W) (hi : ∀ y ∈ hs, IsHash y) (hx : x = accA wd (hs.drop c')) : AccI w0 (setRng W L 0 x) L wd hs c' := by
  have h1 : IsHash (accA wd (hs.drop c)) := accA_is wd _ (fun y hy => hi y (List.mem_of_mem_drop hy))
  have h2 : IsHash (accA wd (hs.drop c')) := accA_is wd _ (fun y hy => hi y (List.mem_of_mem_drop hy))
  subst hx
  exact ⟨bag_box (hW.at h.box (by simp)) h1.1 h2.1, (h.chg.nil_trans hW).setRng (.inr h.low) _ _, h.low⟩
theorem AccI.drewN {w0 wr : World} {L : Nat} {wd : Int} {hs : List (Array Value)} {c : Nat} (h : AccI w0 wr L wd hs c) (n : Nat) : AccI w0 (wr.drewN n) L wd hs c := ⟨h.box, h.chg.drewN n, h.low⟩
set_option maxRecDepth 100000 in
set_option maxHeartbeats 8000000 in
theorem forest_walk (w : World) (wd : Int) (hwd : -9223372036854775808 ≤ wd ∧ wd < 9223372036854775808) (lv : Value) (ls : List (Array Value)) (hv : HsIs w lv ls) (hlen : ls.length ≤ 200) (hk : HIs w)
    (haw : ∀ W, HIs W → Calls Tryd.prog 13 #[] W (Res W [] (.bool true))) :
    Calls Tryd.prog 7 #[.int .i64 wd, lv] w (Res w [] (.bool true)) := by
  have hof := of_calls w wd hwd lv ls hv (by omega) hk
  have hnd := fun W => Nodes_calls ls.length (by omega) W
  have hgt : decide ((200 : Int) < (ls.length : Int)) = false := decide_eq_false (by omega)
  have hnn := nodes_le ls.length
  obtain ⟨hI, a, cap, rfl, hrw⟩ := hv
  obtain ⟨w0, rfl⟩ : ∃ w0 : World, w0 = w := ⟨_, rfl⟩
  go_enter Tryd.func7, Tryd.ntmps7
  go_wp2_with (first
    | (go_at_call 17; refine hof.mono ?_; rintro e w1 ⟨b, t, rfl, hT⟩)
    | (go_at_call 22; refine (hnd _).mono ?_; rintro e w2 ⟨rfl, hw2⟩; obtain rfl : w1 = w2 := hw2.symm))
  clear hof hnd
  go_loopg [9] (nodesN ls.length) (fun g pp wx => ∃ p : Nat, p ≤ nodesN ls.length ∧ g = nodesN ls.length - p ∧ pp = .int .u64 p ∧ Chg [] w1 wx)
  case atStart => exact ⟨0, by omega, by omega, rfl, Chg.refl _ _⟩
  case round =>
    obtain ⟨p, hpl, hg, rfl, hC⟩ := hrel
    have hT' := hT.chg0 hC
    have hkr := hk.chg0 hT'.chg
    by_cases hlt : p < nodesN ls.length
    · have hlt' : p < nodesN ls.length := hlt
      obtain ⟨i, hi, r, hr1, hp⟩ := place_of ls.length p hlt'
      have hF := forest (widthI wd) ls
      have hnode := hT'.nodeCall p hlt' (by omega)
      rcases hrw with hrw | ⟨pb, po, rfl, hpb, hrw⟩
      · subst hrw; simp at hi
      cases r with
      | zero =>
        rw [Nat.add_zero] at hp
        rw [show (treeV (widthI wd) ls).get p = ls[i] from by rw [hp]; exact hF.leaf i hi] at hnode
        have hix := fun W => index_leaf i (by omega) W
        rw [← hp] at hix
        have hrow := rng?_chg hT'.chg (hrw i hi) (by omega) (by simp)
        have hIx := hI _ (List.getElem_mem hi)
        have hs1 := hIx.1
        have hs2 := hIx.one
        have hpbr : pb < wr.heap.size := Nat.lt_of_lt_of_le hpb hT'.chg.size
        have n0 : (0 : Int) ≤ (i : Int) := by omega
        have n1 : (i : Int) < (ls.length : Int) := by omega
        have heq : eqH ls[i] ls[i] = true := eqH_self
        have HG := Lib.hid hg
        have HN := Lib.hid hnode
        have HX := Lib.hid hix
        have hpb3 : p < 1000 := by omega
        clear hg hnode hix hF hT hT' hk hkr hp hrw hI haw hr1
        generalize ls[i] = x at *
        go_upto_region 15 with (first
          | (go_at_call 23; refine HN.out.mono ?_; rintro e w2 ⟨rfl, hc2⟩)
          | (go_at_call 26; refine (HX.out _).mono ?_; rintro e w3 ⟨rfl, hc3⟩))
        have hcX : Chg [] wr w3 := (hc2.alloc _).nil_trans hc3
        have r1 := rng?_chg hc3 (rng?_alloc_at w2 w2.heap.size 32 x 26 rfl hs1) (by omega) (by simp)
        have r2 := rng?_chg hcX hrow (by omega) (by simp)
        have l1 := World.block_lt_of_cell? _ _ ((rng?_cell r1).2 0 (by omega))
        have l2 := World.block_lt_of_cell? _ _ ((rng?_cell r2).2 0 (by omega))
        generalize w2.heap.size = g10 at *
        go_quiet (fail)
        go_wp2
        go_roundg (nodesN ls.length - (p + 1))
        case measure => rw [HG.out]; omega
        case rel => exact ⟨p + 1, by omega, rfl, by go_num, (hC.nil_trans hcX).drewN _⟩
      | succ r =>
        have hix := fun W => index_node i (r + 1) (by omega) hr1 (by omega) W
        have hkd := fun W => kids_calls i (r + 1) (by omega) hr1 (by omega) W
        rw [← hp] at hix hkd
        have hlaw := hF.node i hi r (by omega)
        rw [show nodesN i + 1 + r = p from by omega, show nodesN i + r = p - 1 from by omega, nodeA_width] at hlaw
        have hp2 := Nat.two_pow_pos (r + 1)
        have hn2 := fun (W : World) (hc : Chg [] wr W) => (hT'.chg0 hc).nodeCall (p - 2 ^ (r + 1)) (by omega) (by omega)
        have hn3 := fun (W : World) (hc : Chg [] wr W) => (hT'.chg0 hc).nodeCall (p - 1) (by omega) (by omega)
        have iH := treeV_is wd ls hT' p
        have iA := treeV_is wd ls hT' (p - 2 ^ (r + 1))
        have iB := treeV_is wd ls hT' (p - 1)
        have hno := fun (W : World) (hc : Chg [] wr W) => nodeA_calls W wd iA iB (hkr.chg0 hc)
        rw [← hlaw] at hno
        have HG := Lib.hid hg
        have HN := Lib.hid hnode
        have HX := Lib.hid hix
        have HK := Lib.hid hkd
        have HN2 := Lib.hid hn2
        have HN3 := Lib.hid hn3
        have HNO := Lib.hid hno
        have hpb3 : p < 1000 := by omega
        clear hg hnode hix hkd hn2 hn3 hno hF hT hT' hk hkr hp hrw hI haw hr1 hlaw
        generalize p - 2 ^ (r + 1) = l at *
        generalize (treeV (widthI wd) ls).get p = H at *
        generalize (treeV (widthI wd) ls).get l = A at *
        generalize (treeV (widthI wd) ls).get (p - 1) = B at *
        obtain ⟨hl, rfl⟩ : ∃ hl : List Value, H = hl.toArray := ⟨H.toList, Array.toArray_toList.symm⟩
        obtain ⟨al, rfl⟩ : ∃ al : List Value, A = al.toArray := ⟨A.toList, Array.toArray_toList.symm⟩
        obtain ⟨bl, rfl⟩ : ∃ bl : List Value, B = bl.toArray := ⟨B.toList, Array.toArray_toList.symm⟩
        have sH := iH.1
        have oH := iH.one
        have sA := iA.1
        have oA := iA.one
        have sB := iB.1
        have oB := iB.one
        have qH : eqH hl.toArray hl.toArray = true := eqH_self
        go_wp2_with fail
        go_at_call 23
        refine HN.out.mono ?_
        rintro e w2 ⟨rfl, hc2⟩
        go_wp2_with fail
        go_at_call 26
        refine (HX.out _).mono ?_
        rintro e w3 ⟨rfl, hc3⟩
        go_wp2_with fail
        have c3 : Chg [] wr w3 := (hc2.alloc _).nil_trans hc3
        have r1 := rng?_chg hc3 (rng?_alloc_at w2 w2.heap.size 32 _ 26 rfl sH) (by omega) (by simp)
        clear hc2 hc3
        generalize w2.heap.size = g10 at *
        go_at_call 27
        refine (HK.out _).mono ?_
        rintro e w4 ⟨rfl, hc4⟩
        have c4 := c3.nil_trans hc4
        have r1 := rng?_chg hc4 r1 (by omega) (by simp)
        clear c3 hc4
        go_wp2_with fail
        go_at_call 23
        refine (HN2.out _ c4).mono ?_
        rintro e w5 ⟨rfl, hc5⟩
        go_wp2_with fail
        have c5 : Chg [] wr (w5.alloc (.cells al.toArray 26)) := (c4.nil_trans hc5).alloc _
        have r1 := rng?_chg (hc5.alloc (.cells al.toArray 26)) r1 (by omega) (by simp)
        have r2 := rng?_alloc_at w5 w5.heap.size 32 al.toArray 26 rfl sA
        clear c4 hc5
        generalize w5.alloc (.cells al.toArray 26) = w6 at *
        generalize w5.heap.size = g17 at *
        go_at_call 23
        refine (HN3.out _ c5).mono ?_
        rintro e w7 ⟨rfl, hc7⟩
        go_wp2_with fail
        have c7 : Chg [] wr (w7.alloc (.cells bl.toArray 26)) := (c5.nil_trans hc7).alloc _
        have r1 := rng?_chg (hc7.alloc (.cells bl.toArray 26)) r1 (by omega) (by simp)
        have r2 := rng?_chg (hc7.alloc (.cells bl.toArray 26)) r2 (by omega) (by simp)
        have r3 := rng?_alloc_at w7 w7.heap.size 32 bl.toArray 26 rfl sB
        clear c5 hc7
        generalize w7.alloc (.cells bl.toArray 26) = w8 at *
        generalize w7.heap.size = g19 at *
        have hS2 : ∀ W : World, Chg [] w8 W → W.rangeAt g10 0 hl ∧ W.rangeAt g17 0 al ∧ W.rangeAt g19 0 bl := fun W hc =>
          ⟨rng?_range (rng?_chg hc r1 (by omega) (by simp)), rng?_range (rng?_chg hc r2 (by omega) (by simp)), rng?_range (rng?_chg hc r3 (by omega) (by simp))⟩
        have hno := fun (W : World) (hc : Chg [] w8 W) => HNO.out W (c7.nil_trans hc)
        have HNO := Lib.hid hno
        have hu1 : Tryd.prog.underlying 26 = _ := u_Hash
        have hi1 : (Tryd.prog.info? 26).map (·.size) = some hl.length := by rw [show hl.length = 32 from by simpa using sH]; kernel_rfl
        have hi2 : (Tryd.prog.info? 26).map (·.size) = some al.length := by rw [show al.length = 32 from by simpa using sA]; kernel_rfl
        have hi3 : (Tryd.prog.info? 26).map (·.size) = some bl.length := by rw [show bl.length = 32 from by simpa using sB]; kernel_rfl
        clear hno r1 r2 r3 HN HX HK HN2 HN3
        refine wp_region_noPanic ?_
        refine wp_region_held_drew (S := (fun W => W.rangeAt g10 0 hl ∧ W.rangeAt g17 0 al ∧ W.rangeAt g19 0 bl)) (by kernel_rfl) (by first | exact hS2 _ (by assumption) | exact hS2 _ (Chg.refl _ _).drew) (fun hHeld => ?_)
        refine wpAnyH_take (i := 0) (v := ?_) rfl (by kernel_rfl) (by kernel_rfl) (by kernel_rfl) (fun _ _ _ h => h) (Or.inl ⟨by rfl, ?_⟩) (by assumption) ?_
        rotate_left
        · intro w hSw
          (try dsimp only at hSw)
          go_simp
          try with_reducible rfl
        try simp only [List.getElem_toArray, List.getElem_cons_zero, List.getElem_cons_succ, Act.put, List.setIfInBounds_toArray, List.set_cons_zero, List.set_cons_succ]
        refine wpAnyH_take (i := 1) (v := ?_) rfl (by kernel_rfl) (by kernel_rfl) (by kernel_rfl) (fun _ _ _ h => h) (Or.inl ⟨by rfl, ?_⟩) (by assumption) ?_
        rotate_left
        · intro w hSw
          (try dsimp only at hSw)
          go_simp
          try with_reducible rfl
        try simp only [List.getElem_toArray, List.getElem_cons_zero, List.getElem_cons_succ, Act.put, List.setIfInBounds_toArray, List.set_cons_zero, List.set_cons_succ]
        refine wpAnyH_take (i := 2) (v := ?_) rfl (by kernel_rfl) (by kernel_rfl) (by kernel_rfl) (fun _ _ _ h => h) (Or.inl ⟨by rfl, ?_⟩) (by assumption) ?_
        rotate_left
        · intro w hSw
          (try dsimp only at hSw)
          go_simp
          try with_reducible rfl
        try simp only [List.getElem_toArray, List.getElem_cons_zero, List.getElem_cons_succ, Act.put, List.setIfInBounds_toArray, List.set_cons_zero, List.set_cons_succ]
        refine wpAnyH_take (i := 3) (v := ?_) rfl (by kernel_rfl) (by kernel_rfl) (by kernel_rfl) (fun _ _ _ h => h) (Or.inl ⟨by rfl, ?_⟩) (by assumption) ?_
        rotate_left
        · intro w hSw
          (try dsimp only at hSw)
          go_simp
          try with_reducible rfl
        try simp only [List.getElem_toArray, List.getElem_cons_zero, List.getElem_cons_succ, Act.put, List.setIfInBounds_toArray, List.set_cons_zero, List.set_cons_succ]
        refine wpAnyH_take (i := 4) (v := ?_) rfl (by kernel_rfl) (by kernel_rfl) (by kernel_rfl) (fun _ _ _ h => h) (Or.inl ⟨by rfl, ?_⟩) (by assumption) ?_
        rotate_left
        · intro w hSw
          (try dsimp only at hSw)
          go_simp
          try with_reducible rfl
        try simp only [List.getElem_toArray, List.getElem_cons_zero, List.getElem_cons_succ, Act.put, List.setIfInBounds_toArray, List.set_cons_zero, List.set_cons_succ]
        refine wpAnyH_take (i := 5) (v := ?_) rfl (by kernel_rfl) (by kernel_rfl) (by kernel_rfl) (fun _ _ _ h => h) (Or.inl ⟨by rfl, ?_⟩) (by assumption) ?_
        rotate_left
        · intro w hSw
          (try dsimp only at hSw)
          go_simp
          try with_reducible rfl
        try simp only [List.getElem_toArray, List.getElem_cons_zero, List.getElem_cons_succ, Act.put, List.setIfInBounds_toArray, List.set_cons_zero, List.set_cons_succ]
        refine wpAnyH_take (i := 6) (v := ?_) rfl (by kernel_rfl) (by kernel_rfl) (by kernel_rfl) (fun _ _ _ h => h) (Or.inl ⟨by rfl, ?_⟩) (by assumption) ?_
        rotate_left
        · intro w hSw
          (try dsimp only at hSw)
          go_simp
          try with_reducible rfl
        try simp only [List.getElem_toArray, List.getElem_cons_zero, List.getElem_cons_succ, Act.put, List.setIfInBounds_toArray, List.set_cons_zero, List.set_cons_succ]
        refine' wpAnyH_take (i := 7) (v := _) rfl (by kernel_rfl) (by kernel_rfl) (by kernel_rfl) (fun _ _ _ h => h) (yieldsIf_load_mid (by rfl) _ _ rfl _ _ rfl _ _ ?hS7 ?hu7 ?hd7 ?hi7) (by assumption) ?rest7
        case hS7 => (intro w hSw; (try dsimp only at hSw); obtain ⟨_, _, _⟩ := hSw; assumption)
        case hu7 => assumption
        case hd7 => rfl
        case hi7 => assumption
        case' rest7 => skip
        try simp only [List.getElem_toArray, List.getElem_cons_zero, List.getElem_cons_succ, Act.put, List.setIfInBounds_toArray, List.set_cons_zero, List.set_cons_succ]
        refine wpAnyH_take (i := 8) (v := ?_) rfl (by kernel_rfl) (by kernel_rfl) (by kernel_rfl) (fun _ _ _ h => h) (Or.inl ⟨by rfl, ?_⟩) (by assumption) ?_
        rotate_left
        · intro w hSw
          (try dsimp only at hSw)
          go_simp
          try with_reducible rfl
        try simp only [List.getElem_toArray, List.getElem_cons_zero, List.getElem_cons_succ, Act.put, List.setIfInBounds_toArray, List.set_cons_zero, List.set_cons_succ]
        refine' wpAnyH_take (i := 9) (v := _) rfl (by kernel_rfl) (by kernel_rfl) (by kernel_rfl) (fun _ _ _ h => h) (yieldsIf_load_mid (by rfl) _ _ rfl _ _ rfl _ _ ?hS9 ?hu9 ?hd9 ?hi9) (by assumption) ?rest9
        case hS9 => (intro w hSw; (try dsimp only at hSw); obtain ⟨_, _, _⟩ := hSw; assumption)
        case hu9 => assumption
        case hd9 => rfl
        case hi9 => assumption
        case' rest9 => skip
        try simp only [List.getElem_toArray, List.getElem_cons_zero, List.getElem_cons_succ, Act.put, List.setIfInBounds_toArray, List.set_cons_zero, List.set_cons_succ]
        refine' wpAnyH_take (i := 10) (v := _) rfl (by kernel_rfl) (by kernel_rfl) (by kernel_rfl) (fun _ _ _ h => h) (yieldsIf_load_mid (by rfl) _ _ rfl _ _ rfl _ _ ?hS10 ?hu10 ?hd10 ?hi10) (by assumption) ?rest10
        case hS10 => (intro w hSw; (try dsimp only at hSw); obtain ⟨_, _, _⟩ := hSw; assumption)
        case hu10 => assumption
        case hd10 => rfl
        case hi10 => assumption
        case' rest10 => skip
        try simp only [List.getElem_toArray, List.getElem_cons_zero, List.getElem_cons_succ, Act.put, List.setIfInBounds_toArray, List.set_cons_zero, List.set_cons_succ]
        refine wpAnyH_ready (rs := [11]) (by kernel_rfl) (by simp) ?_
        refine AllReadyH.cons rfl (fun K hK => ?_) ?_
        go_simp
        go_at_call 28; refine (HNO.out _ (by first | assumption | exact (Chg.refl _ _).drew)).mono ?_; rintro e wj ⟨rfl, hcj⟩; have hCj : Chg [] w8 wj := (by first | exact Chg.nil_trans (by assumption) hcj | exact ((Chg.refl _ _).drew).nil_trans hcj)
        go_wp2_with fail
        refine hK.out _ _ (by first | exact hS2 _ (by assumption) | exact hS2 _ (Chg.refl _ _).drew) (fun hHeld => ?_)
        clear hK K
        try simp only [List.getElem_toArray, List.getElem_cons_zero, List.getElem_cons_succ, Act.put, List.setIfInBounds_toArray, List.set_cons_zero, List.set_cons_succ]
        rotate_left
        exact AllReadyH.nil
        refine wpAnyH_take (i := 12) (v := ?_) rfl (by kernel_rfl) (by kernel_rfl) (by kernel_rfl) (fun _ _ _ h => h) (Or.inl ⟨by rfl, ?_⟩) (by assumption) ?_
        rotate_left
        · intro w hSw
          (try dsimp only at hSw)
          go_simp
          try with_reducible rfl
        try simp only [List.getElem_toArray, List.getElem_cons_zero, List.getElem_cons_succ, Act.put, List.setIfInBounds_toArray, List.set_cons_zero, List.set_cons_succ]
        refine wpAnyH_take (i := 13) (v := ?_) rfl (by kernel_rfl) (by kernel_rfl) (by kernel_rfl) (fun _ _ _ h => h) (Or.inl ⟨by rfl, ?_⟩) (by assumption) ?_
        rotate_left
        · intro w hSw
          (try dsimp only at hSw)
          go_simp
          try with_reducible rfl
        try simp only [List.getElem_toArray, List.getElem_cons_zero, List.getElem_cons_succ, Act.put, List.setIfInBounds_toArray, List.set_cons_zero, List.set_cons_succ]
        refine wpAnyH_done (by kernel_rfl) ?_ _
        refine NoPanic.normal ?_
        go_wp2
        go_roundg (nodesN ls.length - (p + 1))
        case measure => rw [HG.out]; omega
        case rel => exact ⟨p + 1, by omega, rfl, by go_num, hC.nil_trans (c7.nil_trans hCj)⟩
    · obtain rfl : p = nodesN ls.length := by omega
      obtain ⟨wo, rfl⟩ : ∃ wo : World, wo = wr := ⟨_, rfl⟩
      have hfar := hT'.nodeFar (nodesN ls.length) (Nat.le_refl _) (by omega)
      have hpl2 := fun W => peaksl_calls ls.length (by omega) W
      have hpk := fun (W : World) (hc : Chg [] wo W) => (hT'.chg0 hc).peaksCall (by omega)
      have hkl : (peaksV wd ls).length = (peaksN ls.length).length := by unfold peaksV; rw [List.length_map]
      have hne : (((peaksN ls.length).length : Int) != ((peaksV wd ls).length : Int)) = false := by rw [bne_eq_false_iff_eq, hkl]
      have hpn : ∀ (W : World), Chg [] wo W → ∀ i (h : i < (peaksN ls.length).length) (h2 : i < (peaksV wd ls).length), Calls Tryd.prog 23 #[.pointer (some ⟨b, 0, none⟩), .int .u64 ((peaksN ls.length)[i] : Nat)] W (Res W [] (.tuple #[.agg (peaksV wd ls)[i], .int .i64 0])) := fun W hc i h h2 => by
        have := (hT'.chg0 hc).nodeCall (peaksN ls.length)[i] (peaks_lt _ _ (List.getElem_mem h)) (by omega)
        rwa [show (treeV (widthI wd) ls).get (peaksN ls.length)[i] = (peaksV wd ls)[i] from by simp [peaksV]] at this
      have hroot : rootL wd ls = rootA wd ls.length (accA wd (peaksV wd ls)) := by
        unfold rootL
        have e : (List.map (treeV (widthI wd) ls).get (peaksN ls.length)) = peaksV wd ls := rfl
        rw [e]
        unfold bagR bagA
        rw [if_pos (by rw [hkl]; exact peaks_length _ (by have : (2 : Nat) ^ 63 = 9223372036854775808 := by decide
                                                          omega)), rootA_width, accA_width]
      have hrt := fun (W : World) (hc : Chg [] wo W) => (hT'.chg0 hc).rootCall (hkr.chg0 hc) (by omega)
      rw [hroot] at hrt
      have hrti : IsHash (rootA wd ls.length (accA wd (peaksV wd ls))) := by rw [← hroot]; exact hT'.rootIs
      have hsz := fun (W : World) (hc : Chg [] wo W) => tSize_same W b t (hT'.chg0 hc).tr
      rw [hT'.size] at hsz
      have hpll : (peaksN ls.length).length ≤ 63 := pkL_len _ 63
      have hch := hT'.chg
      have HFAR := Lib.hid hfar
      have HPL := Lib.hid hpl2
      have HPK := Lib.hid hpk
      have HPN := Lib.hid hpn
      have HRT := Lib.hid hrt
      have HSZ := Lib.hid hsz
      have HKL := Lib.hid hkl
      have HRI := Lib.hid hrti
      clear hfar hpl2 hpk hpn hrt hsz hkl hrti hroot hT hT' hk hI hrw hg
      go_wp2_with fail
      go_at_call 23
      refine HFAR.out.mono ?_
      rintro e w2 ⟨rfl, hc2⟩
      go_wp2_with fail
      go_at_call 29
      refine (HPL.out _).mono ?_
      rintro e w3 ⟨pv, rfl, hU, hc3⟩
      obtain ⟨pa, pcap, rfl, hpc⟩ := hU.cells
      have c3 : Chg [] wo w3 := (hc2.alloc _).nil_trans hc3
      go_wp2_with fail
      go_at_call 19
      refine (HPK.out _ c3).mono ?_
      rintro e w4 ⟨kv, rfl, hO, hc4⟩
      have c4 := c3.nil_trans hc4
      obtain ⟨hKI, ka, kcap, rfl, hkrw⟩ := hO.hs
      have hB0 : AccI w4 (w4.alloc (.cells zeroHash 26)) w4.heap.size wd (peaksV wd ls) (peaksN ls.length).length :=
        ⟨by rw [← HKL.out, List.drop_length]; exact blk_new w4 _, (Chg.refl _ _).alloc _, Nat.le_refl _⟩
      have HB0 := Lib.hid hB0
      have HKI := Lib.hid hKI
      clear hB0 hU hO hc2 hKI HFAR HPL HPK
      generalize peaksV wd ls = hs at *
      generalize peaksN ls.length = ps at *
      go_wp2
      go_loopg [26] ps.length (fun g ii wx => ∃ c : Nat, c ≤ ps.length ∧ g = c ∧ ii = .int .i64 ((c : Int) - 1) ∧ AccI w4 wx w4.heap.size wd hs c)
      case atStart => exact ⟨ps.length, Nat.le_refl _, rfl, rfl, HB0.out⟩
      case round =>
        clear HB0
        obtain ⟨c, hc, hg, rfl, hB⟩ := hrel
        cases c with
        | zero =>
          have hbx := hB.box
          rw [List.drop_zero] at hbx
          have hai : IsHash (accA wd hs) := accA_is wd hs HKI.out
          have c5 := c4.nil_trans hB.chg
          have hrt := fun (W : World) (hc : Chg [] wr W) => HRT.out W (c5.nil_trans hc)
          have hsz := fun (W : World) (hc : Chg [] wr W) => HSZ.out W (c5.nil_trans hc)
          have hro := fun (W : World) (hc : Chg [] wr W) => rootA_calls W wd ls.length (by omega) hai (hkr.chg0 (c5.nil_trans hc))
          have haw2 := fun (W : World) (hc : Chg [] wr W) => haw W (hkr.chg0 (c5.nil_trans hc))
          have hri := HRI.out
          generalize rootA wd ls.length (accA wd hs) = X at *
          generalize accA wd hs = A at *
          obtain ⟨al, rfl⟩ : ∃ al : List Value, A = al.toArray := ⟨A.toList, Array.toArray_toList.symm⟩
          have hS2 : ∀ W : World, Chg [] wr W → W.rangeAt w4.heap.size 0 al := fun W hc => rng?_range (rng?_row (hc.at hbx (by simp)) hai.1)
          have hu1 : Tryd.prog.underlying 26 = _ := u_Hash
          have hi1 : (Tryd.prog.info? 26).map (·.size) = some al.length := by rw [show al.length = 32 from by simpa using hai.1]; kernel_rfl
          have hX1 := hri.1
          have hX2 := hri.one
          have qX : eqH X X = true := eqH_self
          have qw : IntKind.u64.wrap (ls.length : Int) = (ls.length : Int) := by rw [IntKind.wrap_u64]; omega
          have qe : ((ls.length : Int) == (ls.length : Int)) = true := by rw [beq_iff_eq]
          have HSZ2 := Lib.hid hsz
          have HRT2 := Lib.hid hrt
          have HRO := Lib.hid hro
          have HAW := Lib.hid haw2
          clear hsz hrt hro haw2 hbx hB HRT HSZ HRI HPN haw hkr hpc hkrw hg hc
          go_upto_region 38 with (fail)
          go_region_held3 (fun W => W.rangeAt w4.heap.size 0 al) (first | exact hS2 _ (by assumption) | exact hS2 _ (Chg.refl _ _).drew | exact hS2 _ (Chg.refl _ _))
            (first
            | (go_at_call 25; refine (HSZ2.out _ (by first | assumption | exact (Chg.refl _ _).drew)).mono ?_; rintro e wj ⟨rfl, hwj⟩; subst hwj)
            | (go_at_call 18; refine (HRT2.out _ (by first | assumption | exact (Chg.refl _ _).drew)).mono ?_; rintro e wj ⟨rfl, hcj⟩; have hCj : Chg [] wr wj := (by first | exact Chg.nil_trans (by assumption) hcj | exact ((Chg.refl _ _).drew).nil_trans hcj))
            | (go_at_call 31; refine (HRO.out _ (by first | assumption | exact (Chg.refl _ _).drew)).mono ?_; rintro e wj ⟨rfl, hcj⟩; have hCj : Chg [] wr wj := (by first | exact Chg.nil_trans (by assumption) hcj | exact ((Chg.refl _ _).drew).nil_trans hcj))
            | (go_at_call 13; refine (HAW.out _ (by first | assumption | exact (Chg.refl _ _).drew)).mono ?_; rintro e wj ⟨rfl, hcj⟩; have hCj : Chg [] wr wj := (by first | exact Chg.nil_trans (by assumption) hcj | exact ((Chg.refl _ _).drew).nil_trans hcj)))
          all_goals
            go_wp2
            go_ret
            exact ⟨rfl, hch.nil_trans (c5.nil_trans (by assumption))⟩
        | succ k =>
          have hk1 : k < ps.length := hc
          have hk2 : k < hs.length := by have := HKL.out; omega
          rw [show (((k + 1 : Nat) : Int) - 1) = (k : Int) from by omega]
          rcases hpc with hpc | ⟨pb2, po2, rfl, hpb2, hpc⟩
          · subst hpc; simp at hk1
          rcases hkrw with hkrw | ⟨kb, ko, rfl, hkb, hkrw⟩
          · subst hkrw; simp at hk2
          have hcell := ((hc4.nil_trans hB.chg).cell (p := ⟨pb2, po2 + k, none⟩) hpb2 (by simp)).trans (hpc k hk1)
          have hbl := World.block_lt_of_cell? _ _ hcell
          have hrow := rng?_chg hB.chg (hkrw k hk2) (by omega) (by simp)
          have c5 := c4.nil_trans hB.chg
          have hnode := HPN.out wr c5 k hk1 hk2
          have hix := HKI.out _ (List.getElem_mem hk2)
          have hdr := List.drop_eq_getElem_cons hk2
          have hbx := hB.box
          have hai : IsHash (accA wd (hs.drop (k + 1))) := accA_is wd _ (fun y hy => HKI.out y (List.mem_of_mem_drop hy))
          have hp63 : k < 63 := by omega
          have hplt : ps.length ≤ 63 := hpll
          have hs1 := hix.1
          have hs2 := hix.one
          have heq : eqH hs[k] hs[k] = true := eqH_self
          have n0 : (0 : Int) ≤ (k : Int) := by omega
          have n1 : (k : Int) < (hs.length : Int) := by omega
          by_cases hlast : k + 1 = ps.length
          · have hx : hs[k] = accA wd (hs.drop k) := by
              rw [hdr, hlast, ← HKL.out, List.drop_length]
              rfl
            have et : ((k : Int) == (ps.length : Int) - 1) = true := by rw [beq_iff_eq]; omega
            have hnext := fun (W : World) (hW : Chg [] wr W) => hB.set hW HKI.out hx
            have hmb := fun (W : World) (hW : Chg [] wr W) => may_row (o := 0) (n := 32) (hW.at hbx (by simp)) (by rw [hai.1]; omega)
            have HN := Lib.hid hnode
            have HNX := Lib.hid hnext
            have HMB := Lib.hid hmb
            have HG := Lib.hid hg
            clear hnode hnext hmb hx hdr hg hpc hkrw hB hai hbx HRT HSZ HRI HPN haw hkr hlast
            generalize hs[k] = x at *
            generalize ps[k] = pp at *
            go_upto_region 33 with (go_at_call 23; refine HN.out.mono ?_; rintro e w5 ⟨rfl, hc5⟩)
            have hcX : Chg [] wr (w5.alloc (.cells x 26)) := hc5.alloc _
            have r1 := rng?_alloc_at w5 w5.heap.size 32 x 26 rfl hs1
            have r2 := rng?_chg hcX hrow (by omega) (by simp)
            have l1 := World.block_lt_of_cell? _ _ ((rng?_cell r1).2 0 (by omega))
            have l2 := World.block_lt_of_cell? _ _ ((rng?_cell r2).2 0 (by omega))
            clear hc5 hrow
            generalize w5.alloc (.cells x 26) = w6 at *
            generalize w5.heap.size = g27 at *
            go_quiet (fail)
            have hm := HMB.out _ (hcX.drewN nq)
            have r1q : rng? (w6.drewN nq) g27 0 32 = some x := r1
            have hnx := HNX.out _ (hcX.drewN nq)
            have HNX2 := Lib.hid hnx
            clear hnx
            go_wp2
            go_roundg k
            case measure => rw [HG.out]; omega
            case rel => exact ⟨k, by omega, rfl, by go_num, by first | exact HNX2.out | exact (HNX.out _ hcX).drewN nq⟩
          · have hne2 : hs.drop (k + 1) ≠ [] := by rw [Ne, List.drop_eq_nil_iff, HKL.out]; omega
            have hx : foldA wd hs[k] (accA wd (hs.drop (k + 1))) = accA wd (hs.drop k) := by rw [hdr, acc_cons _ _ _ hne2]
            have et : ((k : Int) == (ps.length : Int) - 1) = false := by rw [beq_eq_false_iff_ne]; omega
            have hnext := fun (W : World) (hW : Chg [] wr W) => hB.set hW HKI.out hx
            have hmb := fun (W : World) (hW : Chg [] wr W) => may_row (o := 0) (n := 32) (hW.at hbx (by simp)) (by rw [hai.1]; omega)
            have hlb := fun (W : World) (hW : Chg [] wr W) => rng?_row (hW.at hbx (by simp)) hai.1
            have hno := fun (W : World) (hW : Chg [] wr W) => foldA_calls W wd hix hai (hkr.chg0 (c5.nil_trans hW))
            have hfi := foldA_is wd hix hai
            have hf1 := hfi.1
            have hf2 := hfi.one
            have HN := Lib.hid hnode
            have HNX := Lib.hid hnext
            have HMB := Lib.hid hmb
            have HLB := Lib.hid hlb
            have HNO := Lib.hid hno
            have HG := Lib.hid hg
            have hb1 := hai.1
            have hb2 := hai.one
            clear hnode hnext hmb hlb hno hx hdr hg hpc hkrw hB hbx HRT HSZ HRI HPN haw hkr hlast hne2 hai hfi
            generalize accA wd (hs.drop (k + 1)) = A at *
            generalize hs[k] = x at *
            generalize ps[k] = pp at *
            generalize foldA wd x A = y at *
            go_upto_region 33 with (go_at_call 23; refine HN.out.mono ?_; rintro e w5 ⟨rfl, hc5⟩)
            have hcX : Chg [] wr (w5.alloc (.cells x 26)) := hc5.alloc _
            have r1 := rng?_alloc_at w5 w5.heap.size 32 x 26 rfl hs1
            have r2 := rng?_chg hcX hrow (by omega) (by simp)
            have l1 := World.block_lt_of_cell? _ _ ((rng?_cell r1).2 0 (by omega))
            have l2 := World.block_lt_of_cell? _ _ ((rng?_cell r2).2 0 (by omega))
            clear hc5 hrow
            generalize w5.alloc (.cells x 26) = w6 at *
            generalize w5.heap.size = g27 at *
            go_quiet (fail)
            have r1q : rng? (w6.drewN nq) g27 0 32 = some x := r1
            have rLq := HLB.out _ (hcX.drewN nq)
            have hfo := HNO.out _ (hcX.drewN nq)
            have HFO := Lib.hid hfo
            clear hfo
            go_wp2_with (go_at_call 30; refine HFO.out.mono ?_; rintro e w7 ⟨rfl, hc7⟩; have hm := HMB.out _ ((hcX.drewN nq).nil_trans hc7))
            have hnx := HNX.out _ ((hcX.drewN nq).nil_trans hc7)
            have HNX2 := Lib.hid hnx
            clear hnx
            go_roundg k
            case measure => rw [HG.out]; omega
            case rel => exact ⟨k, by omega, rfl, by go_num, by first | exact HNX2.out | exact (HNX.out _ hcX).drewN nq⟩
set_option maxRecDepth 100000 in
theorem forest_row (w : World) (wd : Int) (hwd : -9223372036854775808 ≤ wd ∧ wd < 9223372036854775808) (lv : Value) (ls : List (Array Value)) (hv : HsIs w lv ls) (hk : HIs w) :
    Calls Tryd.prog 7 #[.int .i64 wd, lv] w (Res w [] (.bool true)) := by
  by_cases h : ls.length ≤ 200
  · exact forest_walk w wd hwd lv ls hv h hk (fun W hW => awake_calls W hW)
  · obtain ⟨_, a, cap, rfl, _⟩ := hv
    have g1 : decide ((200 : Int) < (ls.length : Int)) = true := decide_eq_true (by omega)
    go_enter Tryd.func7, Tryd.ntmps7
    go_wp2
    go_ret
    exact ⟨rfl, Chg.refl _ _⟩
end Go.Proofs.YtogkfjljdmbogaaDoor

/- FindPlays walked: each act. -/
import Derived.Test.YtonppfebmeehcaaFdX
import Derived.Deep.RegionHeld3
import Derived.Deep.MidRow
namespace Go.Proofs.Ytonppfebmeehcaa
open Go.RowKit
set_option linter.unusedVariables false
set_option linter.unusedSimpArgs false

set_option maxRecDepth 100000 in
set_option maxHeartbeats 40000000 in
theorem playsF_main (w : World) (v : Value) (l : List AF) (ha : ActsF w v l) (hlen : l.length ≤ 200) : Calls Try.prog 3 #[v] w (Res w [] (.bool true)) := by
  obtain ⟨hok, a, cap, rfl, hr⟩ := ha
  obtain ⟨w0, rfl⟩ : ∃ w0 : World, w0 = w := ⟨_, rfl⟩
  have hgt : decide ((200 : Int) < (l.length : Int)) = false := decide_eq_false (by omega)
  have hrow : ∀ i (hi : i < l.length), ∃ pb po, a = some ⟨pb, po, none⟩ ∧ pb < w0.heap.size ∧ ∀ W, Chg [] w0 W → rng? W pb (po + i * 34) 34 = some l[i].cells := by
    intro i hi
    rcases hr with hr | ⟨pb, po, rfl, hpb, hr⟩
    · rw [hr] at hi; simp at hi
    · exact ⟨pb, po, rfl, hpb, fun W hW => rng?_chg hW (hr i hi) (by omega) (by simp)⟩
  have HR := Lib.hid hrow
  have HOK := Lib.hid hok
  clear hrow hr hok
  go_enter Try.func3, Try.ntmps3
  go_wp2_with (go_at_call 9; refine (newL _).mono ?_; rintro e w1 ⟨b, rfl, hF⟩)
  have h0 := PF.start hF
  clear hF
  generalize hW1 : w1.alloc (.cells #[.slice none 0 0] 28) = w2 at *
  clear hW1
  go_loopg [5] l.length (fun g ii wx => ∃ k L, k ≤ l.length ∧ L.length ≤ k ∧ g = l.length - k ∧ ii = .int .i64 k ∧ PF [] w0 wx b w1.heap.size L L)
  case atStart => exact ⟨0, [], by omega, by simp, by omega, rfl, h0⟩
  case round =>
    clear h0
    obtain ⟨k, L, hkl, hLk, hg, rfl, hT⟩ := hrel
    have hcx : Chg [] w0 wr := hT.out
    have HG := Lib.hid hg
    clear hg
    by_cases hlt : k < l.length
    · obtain ⟨pb, po, rfl, hpb, hrw⟩ := HR.out k hlt
      have hrk := hrw _ hcx
      have hpr : pb < wr.heap.size := Nat.lt_of_lt_of_le hpb hcx.size
      have hx := HOK.out l[k] (List.getElem_mem hlt)
      have hxs := l[k].size
      have hxo := l[k].one
      clear hrw
      generalize l[k] = x at *
      have hA : Chg [] wr (wr.alloc (.cells x.cells 33)) := (Chg.refl _ _).alloc _
      obtain ⟨F1, hP, hF1, hFl⟩ := hT.hereAt hA
      have hFB := FB.new (w := wr) x
      have hT1 := hT.chg0 hA
      have hF10 : ∀ y ∈ F1, y ∈ [] ∨ w0.heap.size ≤ y := hF1
      have hbx : wr.heap.size ∉ F1 := fun h => by have := hFl _ h; omega
      have HFB := Lib.hid hFB
      have HP := Lib.hid hP
      have HT1 := Lib.hid hT1
      have HF10 := Lib.hid hF10
      have hw2 := hx.what
      have hi2 := hx.i
      have hn0 : (0 : Int) ≤ (k : Int) := by omega
      have hn1 : (k : Int) < (l.length : Int) := by omega
      clear hT hP hT1 hF1 hFl hF10 hFB hA hx
      go_upto_region 11 with (fail)
      generalize hW3 : wr.alloc (.cells x.cells 33) = w3 at *
      generalize hg6 : wr.heap.size = g6 at *
      obtain ⟨q0, q1, q2, q3⟩ := HFB.out
      clear hW3 hg6 hrk hpr
      by_cases e1 : x.what = 1
      · have hh : (x.what == 1) = true := by rw [e1]; rfl
        obtain ⟨xl, hxl⟩ : ∃ xl : List Value, x.k.1 = xl.toArray := ⟨x.k.1.toList, Array.toArray_toList.symm⟩
        have hS2 : ∀ W : World, Chg F1 w3 W → W.rangeAt g6 1 xl := fun W hc => by
          have := rng?_range (rng?_chg hc q1 (by omega) hbx)
          rw [hxl] at this
          exact this
        have hadd := fun W (hW : Chg [] w3 W) => (HP.out.chg0 hW).addF (by omega) x.k
        rw [hxl] at hadd
        have HADD := Lib.hid hadd
        have hu1 : Try.prog.underlying 30 = _ := u_Hash
        have hi1 : (Try.prog.info? 30).map (·.size) = some xl.length := by rw [show xl.length = 32 from by have := x.k.2.1; rw [hxl] at this; simpa using this]; kernel_rfl
        have HX := Lib.hid hxl
        clear hadd e1 hxl q1 q2
        go_upto_region 13 with (fail)
        refine wp_region_noPanic ?_
        refine wp_region_held_drew (S := (fun W => W.rangeAt g6 1 xl)) (by kernel_rfl) (by first | exact hS2 _ (by assumption) | exact hS2 _ (Chg.refl _ _).drew) (fun hHeld => ?_)
        refine wpAnyH_take (i := 0) (v := ?_) rfl (by kernel_rfl) (by kernel_rfl) (by kernel_rfl) (fun _ _ _ h => h) (Or.inl ⟨by rfl, ?_⟩) (by assumption) ?_
        rotate_left
        · intro w hSw
          (try dsimp only at hSw)
          go_simp
          try with_reducible rfl
        try simp only [List.getElem_toArray, List.getElem_cons_zero, List.getElem_cons_succ, Act.put, List.setIfInBounds_toArray, List.set_cons_zero, List.set_cons_succ]
        refine wpAnyH_take (i := 1) (v := ?_) rfl (by kernel_rfl) (by kernel_rfl) (by kernel_rfl) (fun _ _ _ h => h) (Or.inl ⟨by rfl, ?_⟩) (by assumption) ?_
        rotate_left
        · intro w hSw
          (try dsimp only at hSw)
          go_simp
          try with_reducible rfl
        try simp only [List.getElem_toArray, List.getElem_cons_zero, List.getElem_cons_succ, Act.put, List.setIfInBounds_toArray, List.set_cons_zero, List.set_cons_succ]
        refine' wpAnyH_take (i := 2) (v := _) rfl (by kernel_rfl) (by kernel_rfl) (by kernel_rfl) (fun _ _ _ h => h) (yieldsIf_load_mid (by rfl) _ _ rfl _ _ rfl _ _ ?hS2 ?hu2 ?hd2 ?hi2) (by assumption) ?rest2
        case hS2 => (intro w hSw; (try dsimp only at hSw); obtain _ := hSw; assumption)
        case hu2 => assumption
        case hd2 => rfl
        case hi2 => assumption
        case' rest2 => skip
        try simp only [List.getElem_toArray, List.getElem_cons_zero, List.getElem_cons_succ, Act.put, List.setIfInBounds_toArray, List.set_cons_zero, List.set_cons_succ]
        refine wpAnyH_take (i := 4) (v := ?_) rfl (by kernel_rfl) (by kernel_rfl) (by kernel_rfl) (fun _ _ _ h => h) (Or.inl ⟨by rfl, ?_⟩) (by assumption) ?_
        rotate_left
        · intro w hSw
          (try dsimp only at hSw)
          go_simp
          try with_reducible rfl
        try simp only [List.getElem_toArray, List.getElem_cons_zero, List.getElem_cons_succ, Act.put, List.setIfInBounds_toArray, List.set_cons_zero, List.set_cons_succ]
        refine wpAnyH_take (i := 5) (v := ?_) rfl (by kernel_rfl) (by kernel_rfl) (by kernel_rfl) (fun _ _ _ h => h) (Or.inl ⟨by rfl, ?_⟩) (by assumption) ?_
        rotate_left
        · intro w hSw
          (try dsimp only at hSw)
          go_simp
          try with_reducible rfl
        try simp only [List.getElem_toArray, List.getElem_cons_zero, List.getElem_cons_succ, Act.put, List.setIfInBounds_toArray, List.set_cons_zero, List.set_cons_succ]
        refine' wpAnyH_take (i := 6) (v := _) rfl (by kernel_rfl) (by kernel_rfl) (by kernel_rfl) (fun _ _ _ h => h) (yieldsIf_load_mid (by rfl) _ _ rfl _ _ rfl _ _ ?hS6 ?hu6 ?hd6 ?hi6) (by assumption) ?rest6
        case hS6 => (intro w hSw; (try dsimp only at hSw); obtain _ := hSw; assumption)
        case hu6 => assumption
        case hd6 => rfl
        case hi6 => assumption
        case' rest6 => skip
        try simp only [List.getElem_toArray, List.getElem_cons_zero, List.getElem_cons_succ, Act.put, List.setIfInBounds_toArray, List.set_cons_zero, List.set_cons_succ]
        refine wpAnyH_ready (rs := [3]) (by kernel_rfl) (by simp) ?_
        refine AllReadyH.cons rfl (fun K hK => ?_) ?_
        go_simp
        go_at_call 10; refine (HADD.out _ (by first | assumption | exact (Chg.refl _ _).drew)).mono ?_; rintro e wj ⟨rfl, hj⟩; have hCj := hj.out; have HJ := Lib.hid hj; clear hj
        go_wp2_with fail
        refine hK.out _ _ (by exact hS2 _ (by assumption)) (fun hHeld => ?_)
        clear hK K
        try simp only [List.getElem_toArray, List.getElem_cons_zero, List.getElem_cons_succ, Act.put, List.setIfInBounds_toArray, List.set_cons_zero, List.set_cons_succ]
        rotate_left
        exact AllReadyH.nil
        have hadd2 := HJ.out.addR (by omega) x.k
        rw [HX.out] at hadd2
        have HADD2 := Lib.hid hadd2
        clear hadd2
        refine wpAnyH_ready (rs := [7]) (by kernel_rfl) (by simp) ?_
        refine AllReadyH.cons rfl (fun K hK => ?_) ?_
        go_simp
        go_at_call 11; refine HADD2.out.mono ?_; rintro e wq ⟨rfl, hq⟩; have hCq := hq.out; have HQ := Lib.hid hq; clear hq
        go_wp2_with fail
        refine hK.out _ _ (by exact hS2 _ (by assumption)) (fun hHeld => ?_)
        clear hK K
        try simp only [List.getElem_toArray, List.getElem_cons_zero, List.getElem_cons_succ, Act.put, List.setIfInBounds_toArray, List.set_cons_zero, List.set_cons_succ]
        rotate_left
        exact AllReadyH.nil
        refine wpAnyH_take (i := 8) (v := ?_) rfl (by kernel_rfl) (by kernel_rfl) (by kernel_rfl) (fun _ _ _ h => h) (Or.inl ⟨by rfl, ?_⟩) (by assumption) ?_
        rotate_left
        · intro w hSw
          (try dsimp only at hSw)
          go_simp
          try with_reducible rfl
        try simp only [List.getElem_toArray, List.getElem_cons_zero, List.getElem_cons_succ, Act.put, List.setIfInBounds_toArray, List.set_cons_zero, List.set_cons_succ]
        refine wpAnyH_done (by kernel_rfl) ?_ _
        refine NoPanic.normal ?_
        go_wp2
        go_roundg (l.length - (k + 1))
        case measure => rw [HG.out]; omega
        case rel => exact ⟨k + 1, _, by omega, by (simp; omega), rfl, by go_num, (HT1.out.comp HQ.out HF10.out)⟩
      · have hh1 : (x.what == 1) = false := by rw [beq_eq_false_iff_ne]; exact e1
        by_cases e2 : x.what = 2
        · have hh : (x.what == 2) = true := by rw [e2]; rfl
          obtain ⟨xl, hxl⟩ : ∃ xl : List Value, x.k.1 = xl.toArray := ⟨x.k.1.toList, Array.toArray_toList.symm⟩
          have hS2 : ∀ W : World, Chg [] w3 W → W.rangeAt g6 1 xl := fun W hc => by
            have := rng?_range (rng?_chg hc q1 (by omega) (by simp))
            rw [hxl] at this
            exact this
          have hat : ∀ W, Chg [] w3 W → Calls Try.prog 13 #[.pointer (some ⟨b, 0, none⟩), .agg x.k.1] W (CloneP W (idxOf x.k L)) := fun W hW => by
            obtain ⟨F2, q⟩ := (HP.out.chg0 hW).fd
            exact q.at (by omega) x.k
          have hrt : ∀ W, Chg [] w3 W → Calls Try.prog 14 #[.pointer (some ⟨w1.heap.size, 0, none⟩), .agg x.k.1] W (CloneP W (idxOf x.k L)) := fun W hW => by
            obtain ⟨rv, q⟩ := (HP.out.chg0 hW).rf
            exact rAt_calls W _ rv L q (by omega) x.k
          rw [hxl] at hat hrt
          have HAT := Lib.hid hat
          have HRT := Lib.hid hrt
          have hu1 : Try.prog.underlying 30 = _ := u_Hash
          have hi1 : (Try.prog.info? 30).map (·.size) = some xl.length := by rw [show xl.length = 32 from by have := x.k.2.1; rw [hxl] at this; simpa using this]; kernel_rfl
          have hil := idxOf_length x.k L
          generalize idxOf x.k L = I at *
          clear hat hrt e2 hxl q1 q2
          go_upto_region 16 with (fail)
          refine wp_region_noPanic ?_
          refine wp_region_held_drew (S := (fun W => W.rangeAt g6 1 xl)) (by kernel_rfl) (by first | exact hS2 _ (by assumption) | exact hS2 _ (Chg.refl _ _).drew) (fun hHeld => ?_)
          refine wpAnyH_take (i := 0) (v := ?_) rfl (by kernel_rfl) (by kernel_rfl) (by kernel_rfl) (fun _ _ _ h => h) (Or.inl ⟨by rfl, ?_⟩) (by assumption) ?_
          rotate_left
          · intro w hSw
            (try dsimp only at hSw)
            go_simp
            try with_reducible rfl
          try simp only [List.getElem_toArray, List.getElem_cons_zero, List.getElem_cons_succ, Act.put, List.setIfInBounds_toArray, List.set_cons_zero, List.set_cons_succ]
          refine wpAnyH_take (i := 1) (v := ?_) rfl (by kernel_rfl) (by kernel_rfl) (by kernel_rfl) (fun _ _ _ h => h) (Or.inl ⟨by rfl, ?_⟩) (by assumption) ?_
          rotate_left
          · intro w hSw
            (try dsimp only at hSw)
            go_simp
            try with_reducible rfl
          try simp only [List.getElem_toArray, List.getElem_cons_zero, List.getElem_cons_succ, Act.put, List.setIfInBounds_toArray, List.set_cons_zero, List.set_cons_succ]
          refine' wpAnyH_take (i := 2) (v := _) rfl (by kernel_rfl) (by kernel_rfl) (by kernel_rfl) (fun _ _ _ h => h) (yieldsIf_load_mid (by rfl) _ _ rfl _ _ rfl _ _ ?hSb2 ?hub2 ?hdb2 ?hib2) (by assumption) ?restb2
          case hSb2 => (intro w hSw; (try dsimp only at hSw); obtain _ := hSw; assumption)
          case hub2 => assumption
          case hdb2 => rfl
          case hib2 => assumption
          case' restb2 => skip
          try simp only [List.getElem_toArray, List.getElem_cons_zero, List.getElem_cons_succ, Act.put, List.setIfInBounds_toArray, List.set_cons_zero, List.set_cons_succ]
          refine wpAnyH_take (i := 4) (v := ?_) rfl (by kernel_rfl) (by kernel_rfl) (by kernel_rfl) (fun _ _ _ h => h) (Or.inl ⟨by rfl, ?_⟩) (by assumption) ?_
          rotate_left
          · intro w hSw
            (try dsimp only at hSw)
            go_simp
            try with_reducible rfl
          try simp only [List.getElem_toArray, List.getElem_cons_zero, List.getElem_cons_succ, Act.put, List.setIfInBounds_toArray, List.set_cons_zero, List.set_cons_succ]
          refine wpAnyH_take (i := 5) (v := ?_) rfl (by kernel_rfl) (by kernel_rfl) (by kernel_rfl) (fun _ _ _ h => h) (Or.inl ⟨by rfl, ?_⟩) (by assumption) ?_
          rotate_left
          · intro w hSw
            (try dsimp only at hSw)
            go_simp
            try with_reducible rfl
          try simp only [List.getElem_toArray, List.getElem_cons_zero, List.getElem_cons_succ, Act.put, List.setIfInBounds_toArray, List.set_cons_zero, List.set_cons_succ]
          refine' wpAnyH_take (i := 6) (v := _) rfl (by kernel_rfl) (by kernel_rfl) (by kernel_rfl) (fun _ _ _ h => h) (yieldsIf_load_mid (by rfl) _ _ rfl _ _ rfl _ _ ?hSb6 ?hub6 ?hdb6 ?hib6) (by assumption) ?restb6
          case hSb6 => (intro w hSw; (try dsimp only at hSw); obtain _ := hSw; assumption)
          case hub6 => assumption
          case hdb6 => rfl
          case hib6 => assumption
          case' restb6 => skip
          try simp only [List.getElem_toArray, List.getElem_cons_zero, List.getElem_cons_succ, Act.put, List.setIfInBounds_toArray, List.set_cons_zero, List.set_cons_succ]
          refine wpAnyH_take (i := 8) (v := ?_) rfl (by kernel_rfl) (by kernel_rfl) (by kernel_rfl) (fun _ _ _ h => h) (Or.inl ⟨by rfl, ?_⟩) (by assumption) ?_
          rotate_left
          · intro w hSw
            (try dsimp only at hSw)
            go_simp
            try with_reducible rfl
          try simp only [List.getElem_toArray, List.getElem_cons_zero, List.getElem_cons_succ, Act.put, List.setIfInBounds_toArray, List.set_cons_zero, List.set_cons_succ]
          refine wpAnyH_take (i := 9) (v := ?_) rfl (by kernel_rfl) (by kernel_rfl) (by kernel_rfl) (fun _ _ _ h => h) (Or.inl ⟨by rfl, ?_⟩) (by assumption) ?_
          rotate_left
          · intro w hSw
            (try dsimp only at hSw)
            go_simp
            try with_reducible rfl
          try simp only [List.getElem_toArray, List.getElem_cons_zero, List.getElem_cons_succ, Act.put, List.setIfInBounds_toArray, List.set_cons_zero, List.set_cons_succ]
          refine' wpAnyH_take (i := 10) (v := _) rfl (by kernel_rfl) (by kernel_rfl) (by kernel_rfl) (fun _ _ _ h => h) (yieldsIf_load_mid (by rfl) _ _ rfl _ _ rfl _ _ ?hSb10 ?hub10 ?hdb10 ?hib10) (by assumption) ?restb10
          case hSb10 => (intro w hSw; (try dsimp only at hSw); obtain _ := hSw; assumption)
          case hub10 => assumption
          case hdb10 => rfl
          case hib10 => assumption
          case' restb10 => skip
          try simp only [List.getElem_toArray, List.getElem_cons_zero, List.getElem_cons_succ, Act.put, List.setIfInBounds_toArray, List.set_cons_zero, List.set_cons_succ]
          refine wpAnyH_ready (rs := [3]) (by kernel_rfl) (by simp) ?_
          refine AllReadyH.cons rfl (fun K hK => ?_) ?_
          go_simp
          go_at_call 13; refine (HAT.out _ (by first | assumption | exact (Chg.refl _ _).drew)).mono ?_; rintro e wj ⟨v1, rfl, hU1, hcj⟩; have hCj : Chg [] w3 wj := ((Chg.refl [] w3).drew).nil_trans hcj; have hlo1 := own_lt hU1; have hdz : w3.heap.size ≤ w3.drew.heap.size := Nat.le_refl _; have HU1 := Lib.hid hU1; clear hU1
          go_wp2_with fail
          refine hK.out _ _ (by exact hS2 _ (by assumption)) (fun hHeld => ?_)
          clear hK K
          try simp only [List.getElem_toArray, List.getElem_cons_zero, List.getElem_cons_succ, Act.put, List.setIfInBounds_toArray, List.set_cons_zero, List.set_cons_succ]
          rotate_left
          exact AllReadyH.nil
          refine wpAnyH_ready (rs := [7]) (by kernel_rfl) (by simp) ?_
          refine AllReadyH.cons rfl (fun K hK => ?_) ?_
          go_simp
          go_at_call 13; refine (HAT.out _ (by assumption)).mono ?_; rintro e wq ⟨v2, rfl, hU2, hcq⟩; have hCq : Chg [] w3 wq := Chg.nil_trans (by assumption) hcq; have hlo2 := own_lt hU2; have HU2 := Lib.hid hU2; clear hU2
          go_wp2_with fail
          refine hK.out _ _ (by exact hS2 _ (by assumption)) (fun hHeld => ?_)
          clear hK K
          try simp only [List.getElem_toArray, List.getElem_cons_zero, List.getElem_cons_succ, Act.put, List.setIfInBounds_toArray, List.set_cons_zero, List.set_cons_succ]
          rotate_left
          exact AllReadyH.nil
          refine wpAnyH_ready (rs := [11]) (by kernel_rfl) (by simp) ?_
          refine AllReadyH.cons rfl (fun K hK => ?_) ?_
          go_simp
          go_at_call 14; refine (HRT.out _ (by assumption)).mono ?_; rintro e wz ⟨v3, rfl, hU3, hcz⟩; have hCz : Chg [] w3 wz := Chg.nil_trans (by assumption) hcz; have HU3 := Lib.hid hU3; clear hU3
          go_wp2_with fail
          refine hK.out _ _ (by exact hS2 _ (by assumption)) (fun hHeld => ?_)
          clear hK K
          try simp only [List.getElem_toArray, List.getElem_cons_zero, List.getElem_cons_succ, Act.put, List.setIfInBounds_toArray, List.set_cons_zero, List.set_cons_succ]
          rotate_left
          exact AllReadyH.nil
          have hsam := sameL_calls wz _ _ _ v1 v2 v3 I (own_chg (own_chg HU1.out hcq (by simp)) hcz (by simp)) (own_chg HU2.out hcz (by simp)) HU3.out (fun y hy hy2 => by have := (hlo1 y hy).2; have := (hlo2 y hy2).1; omega) (by omega)
          have hlo : ∀ y ∈ ob v1 ++ ob v2, w3.heap.size ≤ y := fun y hy => by
            rcases List.mem_append.1 hy with r | r
            · exact (hlo1 y r).1
            · have := (hlo2 y r).1; have := hCj.size; omega
          have HSAM := Lib.hid hsam
          clear hsam
          refine wpAnyH_ready (rs := [12]) (by kernel_rfl) (by simp) ?_
          refine AllReadyH.cons rfl (fun K hK => ?_) ?_
          go_simp
          go_at_call 12; refine HSAM.out.mono ?_; rintro e wy ⟨rfl, hcy⟩; have hCy : Chg [] w3 wy := hCz.trans hcy (fun y hy => .inr (hlo y hy))
          go_wp2_with fail
          refine hK.out _ _ (by exact hS2 _ (by assumption)) (fun hHeld => ?_)
          clear hK K
          try simp only [List.getElem_toArray, List.getElem_cons_zero, List.getElem_cons_succ, Act.put, List.setIfInBounds_toArray, List.set_cons_zero, List.set_cons_succ]
          rotate_left
          exact AllReadyH.nil
          refine wpAnyH_take (i := 13) (v := ?_) rfl (by kernel_rfl) (by kernel_rfl) (by kernel_rfl) (fun _ _ _ h => h) (Or.inl ⟨by rfl, ?_⟩) (by assumption) ?_
          rotate_left
          · intro w hSw
            (try dsimp only at hSw)
            go_simp
            try with_reducible rfl
          try simp only [List.getElem_toArray, List.getElem_cons_zero, List.getElem_cons_succ, Act.put, List.setIfInBounds_toArray, List.set_cons_zero, List.set_cons_succ]
          refine wpAnyH_done (by kernel_rfl) ?_ _
          refine NoPanic.normal ?_
          go_wp2
          go_roundg (l.length - (k + 1))
          case measure => rw [HG.out]; omega
          case rel => exact ⟨k + 1, _, by omega, by omega, rfl, by go_num, (HT1.out.chg0 hCy)⟩
        · have hh2 : (x.what == 2) = false := by rw [beq_eq_false_iff_ne]; exact e2
          by_cases e3 : x.what = 3
          · have hh : (x.what == 3) = true := by rw [e3]; rfl
            have hlf : ∀ W, Chg [] w3 W → Calls Try.prog 15 #[.pointer (some ⟨b, 0, none⟩), .int .u64 x.i] W (Res W [] (.tuple #[.agg (lfH L x.i), .int .i64 (lfE L x.i)])) := fun W hW => by
              obtain ⟨F2, q⟩ := (HP.out.chg0 hW).fd
              exact q.leaf (by omega) x.i hi2
            have hrl : ∀ W, Chg [] w3 W → Calls Try.prog 16 #[.pointer (some ⟨w1.heap.size, 0, none⟩), .int .u64 x.i] W (Res W [] (.tuple #[.agg (lfH L x.i), .int .i64 (lfE L x.i)])) := fun W hW => by
              obtain ⟨rv, q⟩ := (HP.out.chg0 hW).rf
              exact rLeaf_calls W _ rv L q (by omega) x.i hi2
            have hHI := lfH_is L x.i
            have hEE : ((lfE L x.i) != (lfE L x.i)) = false := by simp
            have HLF := Lib.hid hlf
            have HRL := Lib.hid hrl
            have hs1 := hHI.1
            have hs2 := hHI.one
            have hee : eqH (lfH L x.i) (lfH L x.i) = true := eqH_self
            clear hlf hrl e3 q1
            generalize lfH L x.i = X at *
            generalize lfE L x.i = E at *
            generalize x.i = xi at *
            go_wp2_with fail
            go_at_call 15
            refine (HLF.out _ (Chg.refl _ _)).mono ?_
            rintro e w4 ⟨rfl, hc4⟩
            have p2 : w4.cell? ⟨g6, 33, none⟩ = some (.int .u64 xi) := by rw [hc4.cell (p := ⟨g6, 33, none⟩) q3 (by simp)]; exact q2
            have p3 : g6 < w4.heap.size := Nat.lt_of_lt_of_le q3 hc4.size
            have hc4a := hc4.alloc (.cells X 30)
            have hRL4 := HRL.out _ hc4a
            have HRL4 := Lib.hid hRL4
            clear hRL4
            go_wp2_with fail
            go_at_call 16
            refine HRL4.out.mono ?_
            rintro e w5 ⟨rfl, hc5⟩
            have r1 := rng?_chg hc5 (rng?_alloc_at w4 w4.heap.size 32 X 30 rfl hs1) (by omega) (by simp)
            have l1 : w4.heap.size < w5.heap.size := by have := hc5.size; rw [World.size_alloc] at this; omega
            have hcf : Chg [] w3 (w5.alloc (.cells X 30)) := (hc4a.nil_trans hc5).alloc _
            have HCF := Lib.hid hcf
            clear hc4 hc4a hc5 hcf
            go_wp2
            go_roundg (l.length - (k + 1))
            case measure => rw [HG.out]; omega
            case rel => exact ⟨k + 1, _, by omega, by omega, rfl, by go_num, (HT1.out.chg0 HCF.out)⟩
          · have hh3 : (x.what == 3) = false := by rw [beq_eq_false_iff_ne]; exact e3
            by_cases e4 : x.what = 4
            · have hh : (x.what == 4) = true := by rw [e4]; rfl
              have htl := tells_calls w3 b w1.heap.size L HP.out (by omega)
              clear e4 q1 q2
              have HTL := Lib.hid htl
              clear htl
              go_wp2_with fail
              go_at_call 17
              refine HTL.out.mono ?_
              rintro e w4 ⟨rfl, hc4⟩
              go_wp2
              go_roundg (l.length - (k + 1))
              case measure => rw [HG.out]; omega
              case rel => exact ⟨k + 1, _, by omega, by omega, rfl, by go_num, (HT1.out.chg0 hc4)⟩
            · have hh4 : (x.what == 4) = false := by rw [beq_eq_false_iff_ne]; exact e4
              by_cases e5 : x.what = 5
              · have hh : (x.what == 5) = true := by rw [e5]; rfl
                have hS2 : ∀ W : World, Chg F1 w3 W → W.cell? ⟨g6, 33, none⟩ = some (.int .u64 x.i) := fun W hc => by rw [hc.cell (p := ⟨g6, 33, none⟩) q3 hbx]; exact q2
                by_cases hle : x.i ≤ L.length
                · have hc1 := fun W (hW : Chg [] w3 W) => (HP.out.chg0 hW).cutF (by omega) x.i hle
                  have HC1 := Lib.hid hc1
                  have htk : (L.take x.i).length ≤ k := by rw [List.length_take]; omega
                  clear hc1 e5 q1
                  go_upto_region 27 with (fail)
                  go_region_held3 (fun W => W.cell? ⟨g6, 33, none⟩ = some (.int .u64 x.i)) (first | exact hS2 _ (by assumption) | exact hS2 _ (Chg.refl _ _).drew | exact hS2 _ (Chg.refl _ _)) (first
                    | (go_at_call 18; (with_reducible refine (HC1.out _ (by first | assumption | exact (Chg.refl _ _).drew)).mono ?_); rintro e wj ⟨rfl, hj⟩; have hCj := hj.out; have HJ := Lib.hid hj; clear hj)
                    | (go_at_call 19; (with_reducible refine (HJ.out.cutR (by omega) x.i hle).mono ?_); rintro e wq ⟨rfl, hq⟩; have hCq := hq.out; have HQ := Lib.hid hq; clear hq))
                  all_goals
                    go_wp2
                    go_roundg (l.length - (k + 1))
                    case measure => rw [HG.out]; omega
                    case rel => exact ⟨k + 1, _, by omega, by (have := htk; omega), rfl, by go_num, (HT1.out.comp HQ.out HF10.out)⟩
                · have hc1 : ∀ W, Chg [] w3 W → Calls Try.prog 18 #[.pointer (some ⟨b, 0, none⟩), .int .u64 x.i] W (Res W [] (.int .i64 30)) := fun W hW => by
                    obtain ⟨F2, q⟩ := (HP.out.chg0 hW).fd
                    exact q.cutFar (by omega) x.i (by omega) hi2
                  have hc2 : ∀ W, Chg [] w3 W → Calls Try.prog 19 #[.pointer (some ⟨w1.heap.size, 0, none⟩), .int .u64 x.i] W (Res W [] (.int .i64 30)) := fun W hW => by
                    obtain ⟨rv, q⟩ := (HP.out.chg0 hW).rf
                    exact rCut_far W _ rv L q (by omega) x.i (by omega) hi2
                  have HC1 := Lib.hid hc1
                  have HC2 := Lib.hid hc2
                  have hS3 : ∀ W : World, Chg [] w3 W → W.cell? ⟨g6, 33, none⟩ = some (.int .u64 x.i) := fun W hc => hS2 W hc.of_nil
                  clear hc1 hc2 e5 q1 hS2
                  go_upto_region 27 with (fail)
                  go_region_held3 (fun W => W.cell? ⟨g6, 33, none⟩ = some (.int .u64 x.i)) (first | exact hS3 _ (by assumption) | exact hS3 _ (Chg.refl _ _).drew | exact hS3 _ (Chg.refl _ _)) (first
                    | (go_at_call 18; (with_reducible refine (HC1.out _ (by first | assumption | exact (Chg.refl _ _).drew)).mono ?_); rintro e wj ⟨rfl, hcj⟩; have hCj : Chg [] w3 wj := ((Chg.refl [] w3).drew).nil_trans hcj)
                    | (go_at_call 19; (with_reducible refine (HC2.out _ (by assumption)).mono ?_); rintro e wq ⟨rfl, hcq⟩; have hCq : Chg [] w3 wq := Chg.nil_trans (by assumption) hcq))
                  all_goals
                    go_wp2
                    go_roundg (l.length - (k + 1))
                    case measure => rw [HG.out]; omega
                    case rel => exact ⟨k + 1, _, by omega, by omega, rfl, by go_num, (HT1.out.chg0 hCq)⟩
              · have hh5 : (x.what == 5) = false := by rw [beq_eq_false_iff_ne]; exact e5
                go_wp2
                go_roundg (l.length - (k + 1))
                case measure => rw [HG.out]; omega
                case rel => exact ⟨k + 1, _, by omega, by omega, rfl, by go_num, HT1.out⟩
    · obtain rfl : k = l.length := by omega
      clear HG hkl
      obtain ⟨wo, rfl⟩ : ∃ wo : World, wo = wr := ⟨_, rfl⟩
      obtain ⟨rv, hrf⟩ := hT.rf
      have hre := hrf
      obtain ⟨a2, cap2, rfl, hrw⟩ := hrf.row.rowI
      have hbl := blk_lt hrf.mem
      have hc0 : ∀ W, Chg [] wo W → W.cell? ⟨w1.heap.size, 0, none⟩ = some (.slice a2 L.length cap2) ∧ w1.heap.size < W.heap.size := fun W hW => ⟨by rw [hW.cell (p := ⟨w1.heap.size, 0, none⟩) hbl (by simp)]; exact blk_cell hrf.mem 0 rfl, Nat.lt_of_lt_of_le hbl hW.size⟩
      have HT := Lib.hid hT
      have HRW := Lib.hid hrw
      have HC0 := Lib.hid hc0
      have HRE := Lib.hid hre
      clear hT hrf hrw hc0 hre
      go_wp2
      go_loopg [11] L.length (fun g ii wx => ∃ j, j ≤ L.length ∧ g = L.length - j ∧ ii = .int .i64 j ∧ Chg [] wo wx)
      case atStart => exact ⟨0, by omega, by omega, rfl, Chg.refl _ _⟩
      case round =>
        obtain ⟨j, hjl, hg, rfl, hC⟩ := hrel
        obtain ⟨d0, d1⟩ := HC0.out _ hC
        by_cases hlt2 : j < L.length
        · obtain ⟨g, rfl, hgl, hrow0⟩ := HRW.out j hlt2
          obtain ⟨xl, hxl⟩ : ∃ xl : List Value, L[j].1 = xl.toArray := ⟨L[j].1.toList, Array.toArray_toList.symm⟩
          have hrow := rng?_chg hC hrow0 (by omega) (by simp)
          have hS2 : ∀ W : World, Chg [] wr W → W.cell? ⟨w1.heap.size, 0, none⟩ = some (.slice (some ⟨g, 0, none⟩) L.length cap2) ∧ W.rangeAt g (j * 32) xl := fun W hc => by
            have := rng?_range (rng?_chg hc hrow (by omega) (by simp))
            rw [hxl] at this
            exact ⟨(HC0.out _ (hC.nil_trans hc)).1, this⟩
          have hat : ∀ W, Chg [] wr W → Calls Try.prog 13 #[.pointer (some ⟨b, 0, none⟩), .agg L[j].1] W (CloneP W (idxOf L[j] L)) := fun W hW => by
            obtain ⟨F2, q⟩ := (HT.out.chg0 (hC.nil_trans hW)).fd
            exact q.at (by omega) L[j]
          have hrt : ∀ W, Chg [] wr W → Calls Try.prog 14 #[.pointer (some ⟨w1.heap.size, 0, none⟩), .agg L[j].1] W (CloneP W (idxOf L[j] L)) := fun W hW =>
            rAt_calls W _ _ L (HRE.out.chg0 (hC.nil_trans hW)) (by omega) L[j]
          have hu1 : Try.prog.underlying 30 = _ := u_Hash
          have hi1 : (Try.prog.info? 30).map (·.size) = some xl.length := by rw [show xl.length = 32 from by have := L[j].2.1; rw [hxl] at this; simpa using this]; kernel_rfl
          have hil := idxOf_length L[j] L
          have hgr : g < wr.heap.size := Nat.lt_of_lt_of_le hgl hC.size
          have j0 : (0 : Int) ≤ (j : Int) := by omega
          have j1 : (j : Int) < (L.length : Int) := by omega
          generalize idxOf L[j] L = I at *
          rw [hxl] at hat hrt
          have HAT := Lib.hid hat
          have HRT := Lib.hid hrt
          have HG := Lib.hid hg
          clear hat hrt hxl hrow hrow0 hg
          go_upto_region 32 with (fail)
          refine wp_region_noPanic ?_
          refine wp_region_held_drew (S := (fun W => W.cell? ⟨w1.heap.size, 0, none⟩ = some (.slice (some ⟨g, 0, none⟩) L.length cap2) ∧ W.rangeAt g (j * 32) xl)) (by kernel_rfl) (by first | exact hS2 _ (by assumption) | exact hS2 _ (Chg.refl _ _).drew) (fun hHeld => ?_)
          refine wpAnyH_take (i := 0) (v := ?_) rfl (by kernel_rfl) (by kernel_rfl) (by kernel_rfl) (fun _ _ _ h => h) (Or.inl ⟨by rfl, ?_⟩) (by assumption) ?_
          rotate_left
          · intro w hSw
            (try dsimp only at hSw)
            go_simp
            try with_reducible rfl
          try simp only [List.getElem_toArray, List.getElem_cons_zero, List.getElem_cons_succ, Act.put, List.setIfInBounds_toArray, List.set_cons_zero, List.set_cons_succ]
          refine wpAnyH_take (i := 1) (v := ?_) rfl (by kernel_rfl) (by kernel_rfl) (by kernel_rfl) (fun _ _ _ h => h) (Or.inl ⟨by rfl, ?_⟩) (by assumption) ?_
          rotate_left
          · intro w hSw
            (try dsimp only at hSw)
            go_simp
            try with_reducible rfl
          try simp only [List.getElem_toArray, List.getElem_cons_zero, List.getElem_cons_succ, Act.put, List.setIfInBounds_toArray, List.set_cons_zero, List.set_cons_succ]
          refine wpAnyH_take (i := 2) (v := ?_) rfl (by kernel_rfl) (by kernel_rfl) (by kernel_rfl) (fun _ _ _ h => h) (Or.inl ⟨by rfl, ?_⟩) (by assumption) ?_
          rotate_left
          · intro w hSw
            (try dsimp only at hSw)
            go_simp
            try with_reducible rfl
          try simp only [List.getElem_toArray, List.getElem_cons_zero, List.getElem_cons_succ, Act.put, List.setIfInBounds_toArray, List.set_cons_zero, List.set_cons_succ]
          refine wpAnyH_take (i := 3) (v := ?_) rfl (by kernel_rfl) (by kernel_rfl) (by kernel_rfl) (fun _ _ _ h => h) (Or.inl ⟨by rfl, ?_⟩) (by assumption) ?_
          rotate_left
          · intro w hSw
            (try dsimp only at hSw)
            go_simp
            try with_reducible rfl
          try simp only [List.getElem_toArray, List.getElem_cons_zero, List.getElem_cons_succ, Act.put, List.setIfInBounds_toArray, List.set_cons_zero, List.set_cons_succ]
          refine wpAnyH_take (i := 4) (v := ?_) rfl (by kernel_rfl) (by kernel_rfl) (by kernel_rfl) (fun _ _ _ h => h) (Or.inl ⟨by rfl, ?_⟩) (by assumption) ?_
          rotate_left
          · intro w hSw
            (try dsimp only at hSw)
            obtain ⟨hSw1, hSw2⟩ := hSw
            go_simp
            try with_reducible rfl
          try simp only [List.getElem_toArray, List.getElem_cons_zero, List.getElem_cons_succ, Act.put, List.setIfInBounds_toArray, List.set_cons_zero, List.set_cons_succ]
          refine wpAnyH_take (i := 5) (v := ?_) rfl (by kernel_rfl) (by kernel_rfl) (by kernel_rfl) (fun _ _ _ h => h) (Or.inl ⟨by rfl, ?_⟩) (by assumption) ?_
          rotate_left
          · intro w hSw
            (try dsimp only at hSw)
            go_simp
            try with_reducible rfl
          try simp only [List.getElem_toArray, List.getElem_cons_zero, List.getElem_cons_succ, Act.put, List.setIfInBounds_toArray, List.set_cons_zero, List.set_cons_succ]
          refine wpAnyH_take (i := 6) (v := ?_) rfl (by kernel_rfl) (by kernel_rfl) (by kernel_rfl) (fun _ _ _ h => h) (Or.inl ⟨by rfl, ?_⟩) (by assumption) ?_
          rotate_left
          · intro w hSw
            (try dsimp only at hSw)
            go_simp
            try with_reducible rfl
          try simp only [List.getElem_toArray, List.getElem_cons_zero, List.getElem_cons_succ, Act.put, List.setIfInBounds_toArray, List.set_cons_zero, List.set_cons_succ]
          refine' wpAnyH_take (i := 7) (v := _) rfl (by kernel_rfl) (by kernel_rfl) (by kernel_rfl) (fun _ _ _ h => h) (yieldsIf_load_mid (by rfl) _ _ rfl _ _ rfl _ _ ?hSe7 ?hue7 ?hde7 ?hie7) (by assumption) ?reste7
          case hSe7 => (intro w hSw; (try dsimp only at hSw); obtain ⟨_, _⟩ := hSw; assumption)
          case hue7 => assumption
          case hde7 => rfl
          case hie7 => assumption
          case' reste7 => skip
          try simp only [List.getElem_toArray, List.getElem_cons_zero, List.getElem_cons_succ, Act.put, List.setIfInBounds_toArray, List.set_cons_zero, List.set_cons_succ]
          refine wpAnyH_take (i := 9) (v := ?_) rfl (by kernel_rfl) (by kernel_rfl) (by kernel_rfl) (fun _ _ _ h => h) (Or.inl ⟨by rfl, ?_⟩) (by assumption) ?_
          rotate_left
          · intro w hSw
            (try dsimp only at hSw)
            go_simp
            try with_reducible rfl
          try simp only [List.getElem_toArray, List.getElem_cons_zero, List.getElem_cons_succ, Act.put, List.setIfInBounds_toArray, List.set_cons_zero, List.set_cons_succ]
          refine wpAnyH_take (i := 10) (v := ?_) rfl (by kernel_rfl) (by kernel_rfl) (by kernel_rfl) (fun _ _ _ h => h) (Or.inl ⟨by rfl, ?_⟩) (by assumption) ?_
          rotate_left
          · intro w hSw
            (try dsimp only at hSw)
            go_simp
            try with_reducible rfl
          try simp only [List.getElem_toArray, List.getElem_cons_zero, List.getElem_cons_succ, Act.put, List.setIfInBounds_toArray, List.set_cons_zero, List.set_cons_succ]
          refine wpAnyH_take (i := 11) (v := ?_) rfl (by kernel_rfl) (by kernel_rfl) (by kernel_rfl) (fun _ _ _ h => h) (Or.inl ⟨by rfl, ?_⟩) (by assumption) ?_
          rotate_left
          · intro w hSw
            (try dsimp only at hSw)
            go_simp
            try with_reducible rfl
          try simp only [List.getElem_toArray, List.getElem_cons_zero, List.getElem_cons_succ, Act.put, List.setIfInBounds_toArray, List.set_cons_zero, List.set_cons_succ]
          refine wpAnyH_take (i := 12) (v := ?_) rfl (by kernel_rfl) (by kernel_rfl) (by kernel_rfl) (fun _ _ _ h => h) (Or.inl ⟨by rfl, ?_⟩) (by assumption) ?_
          rotate_left
          · intro w hSw
            (try dsimp only at hSw)
            go_simp
            try with_reducible rfl
          try simp only [List.getElem_toArray, List.getElem_cons_zero, List.getElem_cons_succ, Act.put, List.setIfInBounds_toArray, List.set_cons_zero, List.set_cons_succ]
          refine wpAnyH_take (i := 13) (v := ?_) rfl (by kernel_rfl) (by kernel_rfl) (by kernel_rfl) (fun _ _ _ h => h) (Or.inl ⟨by rfl, ?_⟩) (by assumption) ?_
          rotate_left
          · intro w hSw
            (try dsimp only at hSw)
            obtain ⟨hSw1, hSw2⟩ := hSw
            go_simp
            try with_reducible rfl
          try simp only [List.getElem_toArray, List.getElem_cons_zero, List.getElem_cons_succ, Act.put, List.setIfInBounds_toArray, List.set_cons_zero, List.set_cons_succ]
          refine wpAnyH_take (i := 14) (v := ?_) rfl (by kernel_rfl) (by kernel_rfl) (by kernel_rfl) (fun _ _ _ h => h) (Or.inl ⟨by rfl, ?_⟩) (by assumption) ?_
          rotate_left
          · intro w hSw
            (try dsimp only at hSw)
            go_simp
            try with_reducible rfl
          try simp only [List.getElem_toArray, List.getElem_cons_zero, List.getElem_cons_succ, Act.put, List.setIfInBounds_toArray, List.set_cons_zero, List.set_cons_succ]
          refine wpAnyH_take (i := 15) (v := ?_) rfl (by kernel_rfl) (by kernel_rfl) (by kernel_rfl) (fun _ _ _ h => h) (Or.inl ⟨by rfl, ?_⟩) (by assumption) ?_
          rotate_left
          · intro w hSw
            (try dsimp only at hSw)
            go_simp
            try with_reducible rfl
          try simp only [List.getElem_toArray, List.getElem_cons_zero, List.getElem_cons_succ, Act.put, List.setIfInBounds_toArray, List.set_cons_zero, List.set_cons_succ]
          refine' wpAnyH_take (i := 16) (v := _) rfl (by kernel_rfl) (by kernel_rfl) (by kernel_rfl) (fun _ _ _ h => h) (yieldsIf_load_mid (by rfl) _ _ rfl _ _ rfl _ _ ?hSe16 ?hue16 ?hde16 ?hie16) (by assumption) ?reste16
          case hSe16 => (intro w hSw; (try dsimp only at hSw); obtain ⟨_, _⟩ := hSw; assumption)
          case hue16 => assumption
          case hde16 => rfl
          case hie16 => assumption
          case' reste16 => skip
          try simp only [List.getElem_toArray, List.getElem_cons_zero, List.getElem_cons_succ, Act.put, List.setIfInBounds_toArray, List.set_cons_zero, List.set_cons_succ]
          refine wpAnyH_take (i := 18) (v := ?_) rfl (by kernel_rfl) (by kernel_rfl) (by kernel_rfl) (fun _ _ _ h => h) (Or.inl ⟨by rfl, ?_⟩) (by assumption) ?_
          rotate_left
          · intro w hSw
            (try dsimp only at hSw)
            go_simp
            try with_reducible rfl
          try simp only [List.getElem_toArray, List.getElem_cons_zero, List.getElem_cons_succ, Act.put, List.setIfInBounds_toArray, List.set_cons_zero, List.set_cons_succ]
          refine wpAnyH_take (i := 19) (v := ?_) rfl (by kernel_rfl) (by kernel_rfl) (by kernel_rfl) (fun _ _ _ h => h) (Or.inl ⟨by rfl, ?_⟩) (by assumption) ?_
          rotate_left
          · intro w hSw
            (try dsimp only at hSw)
            go_simp
            try with_reducible rfl
          try simp only [List.getElem_toArray, List.getElem_cons_zero, List.getElem_cons_succ, Act.put, List.setIfInBounds_toArray, List.set_cons_zero, List.set_cons_succ]
          refine wpAnyH_take (i := 20) (v := ?_) rfl (by kernel_rfl) (by kernel_rfl) (by kernel_rfl) (fun _ _ _ h => h) (Or.inl ⟨by rfl, ?_⟩) (by assumption) ?_
          rotate_left
          · intro w hSw
            (try dsimp only at hSw)
            go_simp
            try with_reducible rfl
          try simp only [List.getElem_toArray, List.getElem_cons_zero, List.getElem_cons_succ, Act.put, List.setIfInBounds_toArray, List.set_cons_zero, List.set_cons_succ]
          refine wpAnyH_take (i := 21) (v := ?_) rfl (by kernel_rfl) (by kernel_rfl) (by kernel_rfl) (fun _ _ _ h => h) (Or.inl ⟨by rfl, ?_⟩) (by assumption) ?_
          rotate_left
          · intro w hSw
            (try dsimp only at hSw)
            go_simp
            try with_reducible rfl
          try simp only [List.getElem_toArray, List.getElem_cons_zero, List.getElem_cons_succ, Act.put, List.setIfInBounds_toArray, List.set_cons_zero, List.set_cons_succ]
          refine wpAnyH_take (i := 22) (v := ?_) rfl (by kernel_rfl) (by kernel_rfl) (by kernel_rfl) (fun _ _ _ h => h) (Or.inl ⟨by rfl, ?_⟩) (by assumption) ?_
          rotate_left
          · intro w hSw
            (try dsimp only at hSw)
            obtain ⟨hSw1, hSw2⟩ := hSw
            go_simp
            try with_reducible rfl
          try simp only [List.getElem_toArray, List.getElem_cons_zero, List.getElem_cons_succ, Act.put, List.setIfInBounds_toArray, List.set_cons_zero, List.set_cons_succ]
          refine wpAnyH_take (i := 23) (v := ?_) rfl (by kernel_rfl) (by kernel_rfl) (by kernel_rfl) (fun _ _ _ h => h) (Or.inl ⟨by rfl, ?_⟩) (by assumption) ?_
          rotate_left
          · intro w hSw
            (try dsimp only at hSw)
            go_simp
            try with_reducible rfl
          try simp only [List.getElem_toArray, List.getElem_cons_zero, List.getElem_cons_succ, Act.put, List.setIfInBounds_toArray, List.set_cons_zero, List.set_cons_succ]
          refine wpAnyH_take (i := 24) (v := ?_) rfl (by kernel_rfl) (by kernel_rfl) (by kernel_rfl) (fun _ _ _ h => h) (Or.inl ⟨by rfl, ?_⟩) (by assumption) ?_
          rotate_left
          · intro w hSw
            (try dsimp only at hSw)
            go_simp
            try with_reducible rfl
          try simp only [List.getElem_toArray, List.getElem_cons_zero, List.getElem_cons_succ, Act.put, List.setIfInBounds_toArray, List.set_cons_zero, List.set_cons_succ]
          refine' wpAnyH_take (i := 25) (v := _) rfl (by kernel_rfl) (by kernel_rfl) (by kernel_rfl) (fun _ _ _ h => h) (yieldsIf_load_mid (by rfl) _ _ rfl _ _ rfl _ _ ?hSe25 ?hue25 ?hde25 ?hie25) (by assumption) ?reste25
          case hSe25 => (intro w hSw; (try dsimp only at hSw); obtain ⟨_, _⟩ := hSw; assumption)
          case hue25 => assumption
          case hde25 => rfl
          case hie25 => assumption
          case' reste25 => skip
          try simp only [List.getElem_toArray, List.getElem_cons_zero, List.getElem_cons_succ, Act.put, List.setIfInBounds_toArray, List.set_cons_zero, List.set_cons_succ]
          refine wpAnyH_ready (rs := [8]) (by kernel_rfl) (by simp) ?_
          refine AllReadyH.cons rfl (fun K hK => ?_) ?_
          go_simp
          go_at_call 13; refine (HAT.out _ (by first | assumption | exact (Chg.refl _ _).drew)).mono ?_; rintro e wj ⟨v1, rfl, hU1, hcj⟩; have hCj : Chg [] wr wj := ((Chg.refl [] wr).drew).nil_trans hcj; have hlo1 := own_lt hU1; have hdz : wr.heap.size ≤ wr.drew.heap.size := Nat.le_refl _; have HU1 := Lib.hid hU1; clear hU1
          go_wp2_with fail
          refine hK.out _ _ (by exact hS2 _ (by assumption)) (fun hHeld => ?_)
          clear hK K
          try simp only [List.getElem_toArray, List.getElem_cons_zero, List.getElem_cons_succ, Act.put, List.setIfInBounds_toArray, List.set_cons_zero, List.set_cons_succ]
          rotate_left
          exact AllReadyH.nil
          refine wpAnyH_ready (rs := [17]) (by kernel_rfl) (by simp) ?_
          refine AllReadyH.cons rfl (fun K hK => ?_) ?_
          go_simp
          go_at_call 13; refine (HAT.out _ (by assumption)).mono ?_; rintro e wq ⟨v2, rfl, hU2, hcq⟩; have hCq : Chg [] wr wq := Chg.nil_trans (by assumption) hcq; have hlo2 := own_lt hU2; have HU2 := Lib.hid hU2; clear hU2
          go_wp2_with fail
          refine hK.out _ _ (by exact hS2 _ (by assumption)) (fun hHeld => ?_)
          clear hK K
          try simp only [List.getElem_toArray, List.getElem_cons_zero, List.getElem_cons_succ, Act.put, List.setIfInBounds_toArray, List.set_cons_zero, List.set_cons_succ]
          rotate_left
          exact AllReadyH.nil
          refine wpAnyH_ready (rs := [26]) (by kernel_rfl) (by simp) ?_
          refine AllReadyH.cons rfl (fun K hK => ?_) ?_
          go_simp
          go_at_call 14; refine (HRT.out _ (by assumption)).mono ?_; rintro e wz ⟨v3, rfl, hU3, hcz⟩; have hCz : Chg [] wr wz := Chg.nil_trans (by assumption) hcz; have HU3 := Lib.hid hU3; clear hU3
          go_wp2_with fail
          refine hK.out _ _ (by exact hS2 _ (by assumption)) (fun hHeld => ?_)
          clear hK K
          try simp only [List.getElem_toArray, List.getElem_cons_zero, List.getElem_cons_succ, Act.put, List.setIfInBounds_toArray, List.set_cons_zero, List.set_cons_succ]
          rotate_left
          exact AllReadyH.nil
          have hsam := sameL_calls wz _ _ _ v1 v2 v3 I (own_chg (own_chg HU1.out hcq (by simp)) hcz (by simp)) (own_chg HU2.out hcz (by simp)) HU3.out (fun y hy hy2 => by have := (hlo1 y hy).2; have := (hlo2 y hy2).1; omega) (by omega)
          have hlo : ∀ y ∈ ob v1 ++ ob v2, wr.heap.size ≤ y := fun y hy => by
            rcases List.mem_append.1 hy with r | r
            · exact (hlo1 y r).1
            · have := (hlo2 y r).1; have := hCj.size; omega
          have HSAM := Lib.hid hsam
          clear hsam
          refine wpAnyH_ready (rs := [27]) (by kernel_rfl) (by simp) ?_
          refine AllReadyH.cons rfl (fun K hK => ?_) ?_
          go_simp
          go_at_call 12; refine HSAM.out.mono ?_; rintro e wy ⟨rfl, hcy⟩; have hCy : Chg [] wr wy := hCz.trans hcy (fun y hy => .inr (hlo y hy))
          go_wp2_with fail
          refine hK.out _ _ (by exact hS2 _ (by assumption)) (fun hHeld => ?_)
          clear hK K
          try simp only [List.getElem_toArray, List.getElem_cons_zero, List.getElem_cons_succ, Act.put, List.setIfInBounds_toArray, List.set_cons_zero, List.set_cons_succ]
          rotate_left
          exact AllReadyH.nil
          refine wpAnyH_take (i := 28) (v := ?_) rfl (by kernel_rfl) (by kernel_rfl) (by kernel_rfl) (fun _ _ _ h => h) (Or.inl ⟨by rfl, ?_⟩) (by assumption) ?_
          rotate_left
          · intro w hSw
            (try dsimp only at hSw)
            go_simp
            try with_reducible rfl
          try simp only [List.getElem_toArray, List.getElem_cons_zero, List.getElem_cons_succ, Act.put, List.setIfInBounds_toArray, List.set_cons_zero, List.set_cons_succ]
          refine wpAnyH_done (by kernel_rfl) ?_ _
          refine NoPanic.normal ?_
          go_wp2
          go_roundg (L.length - (j + 1))
          case measure => rw [HG.out]; omega
          case rel => exact ⟨j + 1, by omega, rfl, by go_num, hC.nil_trans hCy⟩
        · obtain rfl : j = L.length := by omega
          have htl := fun W (hW : Chg [] wr W) => tells_calls W b w1.heap.size L (HT.out.chg0 (hC.nil_trans hW)) (by omega)
          have HTL := Lib.hid htl
          have hcf := hcx.nil_trans hC
          clear htl hg
          go_wp2_with fail
          go_at_call 17
          refine (HTL.out _ (Chg.refl _ _)).mono ?_
          rintro e w5 ⟨rfl, hc5⟩
          go_wp2_with fail
          go_at_call 20
          refine (awakeF_calls _).mono ?_
          rintro e w6 ⟨rfl, hc6⟩
          go_wp2
          go_ret
          exact ⟨rfl, (hcf.nil_trans hc5).nil_trans hc6⟩
set_option maxRecDepth 100000 in
theorem playsF_walk (w : World) (v : Value) (l : List AF) (ha : ActsF w v l) : Calls Try.prog 3 #[v] w (Res w [] (.bool true)) := by
  by_cases h : l.length ≤ 200
  · exact playsF_main w v l ha h
  · obtain ⟨_, a, cap, rfl, _⟩ := ha
    have g1 : decide ((200 : Int) < (l.length : Int)) = true := decide_eq_true (by omega)
    go_enter Try.func3, Try.ntmps3
    go_wp2
    go_ret
    exact ⟨rfl, Chg.refl _ _⟩
end Go.Proofs.Ytonppfebmeehcaa

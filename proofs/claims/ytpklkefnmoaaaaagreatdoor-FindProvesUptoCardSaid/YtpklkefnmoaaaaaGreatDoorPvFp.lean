/- Texts put into one by pack.py: PvF. -/
import Derived.Test.YtpklkefnmoaaaaaGreatDoorPkT
/- FindProves walked. -/
namespace Go.Proofs.YtpklkefnmoaaaaaGreatDoor
open Go.RowKit
set_option linter.unusedVariables false
set_option linter.unusedSimpArgs false
set_option maxRecDepth 100000 in
set_option maxHeartbeats 8000000 in
theorem proves_main (w : World) (wd : Int) (hwd : -9223372036854775808 ≤ wd ∧ wd < 9223372036854775808) (lv : Value) (ls : List HK) (hv : HsIs w lv (ls.map (·.1))) (hlen : ls.length ≤ 100) (dv : Value) (ds : List Int) (hd : NsIs .u64 w dv ds) (hdl : ds.length ≤ 200) (k : HK) (hk : HIs w) :
    Calls Tryz.prog 4 #[.int .i64 wd, lv, dv, .agg k.1] w (Res w [] (.bool true)) := by
  have hk1 := k.2.1
  have hk2 := k.2.one
  have hc0 : Chg [] w (w.alloc (.cells k.1 36)) := (Chg.refl [] w).alloc _
  have hbx := rng?_row (blk_new w (.cells k.1 36)) hk1
  have hv0 := hv.chg hc0 (by simp)
  have hd0 := hd.chg hc0 (by simp)
  have hh0 := hk.chg0 hc0
  obtain ⟨hI, la, lcap, rfl, hlr⟩ := hv
  obtain ⟨hN, da, dcap, rfl, hdr⟩ := hd
  have hml : (ls.map (·.1)).length = ls.length := List.length_map _
  rw [hml]
  rw [hml] at hv0
  have hgl : w.heap.size < (w.alloc (.cells k.1 36)).heap.size := by simp
  clear hk hlr hdr
  have hnw := fun W => new_of W
  have htn := fun (W : World) (hc : Chg [] (w.alloc (.cells k.1 36)) W) => tnew_ok W wd hwd 2 (by omega) (hh0.chg0 hc)
  have hof := fun (W : World) (hc : Chg [] (w.alloc (.cells k.1 36)) W) => r6of_calls W wd hwd _ _ (hv0.chg hc (by simp)) (by rw [hml]; omega)
  rw [show ((2 : Nat) : Int) = 2 from rfl] at htn
  have hgt1 : decide (100 < ls.length) = false := decide_eq_false (by omega)
  have hgt2 : decide (200 < ds.length) = false := decide_eq_false (by omega)
  have HTN := Lib.hid htn
  have HOF := Lib.hid hof
  clear htn hof
  go_enter Tryz.func4, Tryz.ntmps4
  go_upto_region 3 with (fail)
  generalize w.alloc (.cells k.1 36) = wb at *
  go_upto_region 8 with (first
    | (go_at_call 19; refine (hnw _).mono ?_; rintro e w1 ⟨fb, f, rfl, hf1, hf0⟩; have hc1 := hf1.chg)
    | (go_at_call 13; refine (HTN.out _ hc1).mono ?_; rintro e w2 ⟨b, t, rfl, ht1, ht2, ht3, ht4, ht5, ht6, ht7, ht8, ht9⟩)
    | (go_at_call 16; refine (tstoreO_calls _ b t ht1).mono ?_; rintro e w3 ⟨rfl, hc3⟩)
    | (go_at_call 20; refine (HOF.out _ ((hc1.nil_trans ht2).nil_trans hc3)).mono ?_; rintro e w4 ⟨rb, r, rfl, hr1, hr2, hr3, hr4⟩))
  have hL := L22.new hf1 ht1 ht2 ht3 hc3 hr1 hr3 hr4
  have hT0 := TL.zero ht4 ht5 ht6 ht7 ht8
  have hP0 : P22 wb w4 fb b rb f t r wd [] [] (.slice none 0 0) [] := ⟨hL, hT0, hf0, UOwn.nil _ _, by simp [ob, Value.ownBlock]⟩
  have hcb := hc0
  clear hL hT0 hf1 hf0 ht1 ht2 ht3 ht4 ht5 ht6 ht7 ht8 ht9 hc3 hr1 hr3 hr4 hc1 HTN HOF hnw
  obtain ⟨_, la', lcap', hlv, hlr⟩ := hv0
  rw [hml] at hlv
  injection hlv with e1 e2 e3
  subst e1 e3
  obtain ⟨_, da', dcap', hdv, hdr⟩ := hd0
  injection hdv with e1 e2 e3
  subst e1 e3
  go_wp2_with fail
  go_loopg [13, 14] ls.length (fun g vv ii wx => ∃ (j : Nat) (f : FS) (t : TS), j ≤ ls.length ∧ g = ls.length - j ∧ ii = .int .i64 j ∧ P22 wb wx fb b rb f t r wd (ls.take j) (ls.take j) vv (idxOf k (ls.take j)))
  case atStart => exact ⟨0, f, t, by omega, by omega, rfl, by rw [List.take_zero]; exact hP0⟩
  case round =>
    clear hP0
    obtain ⟨j, f, t, hj, hg, rfl, hP⟩ := hrel
    have HG := Lib.hid hg
    clear hg
    by_cases hlt : j < ls.length
    · have hlt' := hlt
      rcases hlr with hlr | ⟨pb, po, rfl, hpb, hlr⟩
      · have : ls = [] := by simpa using hlr
        rw [this] at hlt'
        simp at hlt'
      have hrow0 := hlr j (by rw [hml]; exact hlt')
      rw [List.getElem_map] at hrow0
      have htk : ls.take (j + 1) = ls.take j ++ [ls[j]] := List.take_succ_eq_append_getElem hlt'
      have htl : (ls.take j).length = j := by rw [List.length_take]; omega
      obtain ⟨x, hx⟩ : ∃ x : HK, x = ls[j] := ⟨_, rfl⟩
      rw [← hx] at hrow0 htk
      have hx1 := x.2.1
      have hx2 := x.2.one
      have hrow := rng?_chg hP.chg hrow0 (by omega) (by simp)
      have hlk := World.block_lt_of_cell? _ _ ((rng?_cell hrow).2 0 (by rw [(rng?_cell hrow).1]; omega))
      have happ := hP.appCalls x hh0 (by rw [htl]; omega)
      have hnx := fun (e : Ending) (w' : World) (hp : AppP wr b t x.1 e w') => hP.app hp (by rw [htl]; omega)
      have hix := idxOf_append k x (ls.take j)
      rw [← htk, htl] at hix
      rw [htl] at hnx
      have hil : (idxOf k (ls.take j)).length ≤ 100 := by have := idxOf_length k (ls.take j); rw [htl] at this; omega
      have HAP := Lib.hid happ
      have HNX := Lib.hid hnx
      have HTK := Lib.hid htk
      have HIX := Lib.hid hix
      clear happ hnx htk hix hx hlr hdr hP
      go_upto_region 13 with (go_at_call 21; refine HAP.out.mono ?_; intro e w5 hp; obtain ⟨he, t', hP5⟩ := HNX.out e w5 hp; subst he)
      have hrow5 := rng?_chg hP5.chg hrow0 (by omega) (by simp)
      have hlk5 := World.block_lt_of_cell? _ _ ((rng?_cell hrow5).2 0 (by rw [(rng?_cell hrow5).1]; omega))
      have hadd := hP5.addCalls x (by rw [htl]; omega)
      have hnx := fun (e : Ending) (w' : World) (hp : AddP w5 fb f x e w') => hP5.add hp
      rw [htl] at hnx
      have HAD := Lib.hid hadd
      have HNX := Lib.hid hnx
      clear hadd hnx hrow hlk HAP hP5
      have ene : ((j : Int) != (j : Int)) = false := by simp
      go_upto_region 15 with (go_at_call 22; refine HAD.out.mono ?_; intro e w6 hp; obtain ⟨he, f', hP6⟩ := HNX.out e w6 hp; subst he)
      have hrow6 := rng?_chg hP6.chg hrow0 (by omega) (by simp)
      have hlk6 := World.block_lt_of_cell? _ _ ((rng?_cell hrow6).2 0 (by rw [(rng?_cell hrow6).1]; omega))
      have hbx6 := rng?_chg hP6.chg hbx (by omega) (by simp)
      have hgl6 := World.block_lt_of_cell? _ _ ((rng?_cell hbx6).2 0 (by rw [(rng?_cell hbx6).1]; omega))
      rw [← HTK.out] at hP6
      clear HAD hrow5 hlk5
      have hxi : IsHash x.1 := x.2
      have hki : IsHash k.1 := k.2
      by_cases hxk : x = k
      · have heq : eqH x.1 k.1 = true := by rw [hxk]; exact eqH_self
        have hix := HIX.out
        rw [if_pos hxk] at hix
        clear hxk
        have hP6' := fun nd => hP6.chg0 ((Chg.refl [] w6).drewN nd)
        have hput := fun nd => (hP6' nd).put j hil 44
        rw [← hix] at hput
        have HPU := Lib.hid hput
        clear hput hix hP6 hP6'
        go_quiet (fail)
        rename Nat => nd
        obtain ⟨v2, w7, hrun, hP7⟩ := HPU.out nd
        have HP7 := Lib.hid hP7
        clear hP7 HPU
        generalize w6.drewN nd = w6d at *
        go_wp2_with (at_builtin; refine Lib.wpList_append_run _ rfl _ _ _ _ rfl _ _ rfl rfl _ _ hrun ?_)
        go_roundg (ls.length - (j + 1))
        case measure => rw [HG.out]; omega
        case rel => exact ⟨j + 1, f', t', by omega, rfl, by go_num, HP7.out⟩
      · have heq : eqH x.1 k.1 = false := by
          cases h : eqH x.1 k.1 with
          | false => rfl
          | true => exact absurd (Subtype.ext ((eqH_iff x.2 k.2).1 h)) hxk
        have hix := HIX.out
        rw [if_neg hxk] at hix
        clear hxk
        rw [← hix] at hP6
        have hP6' := fun nd => hP6.chg0 ((Chg.refl [] w6).drewN nd)
        have HP6 := Lib.hid hP6'
        clear hix hP6 hP6'
        go_quiet (fail)
        go_wp2
        go_roundg (ls.length - (j + 1))
        case measure => rw [HG.out]; omega
        case rel => exact ⟨j + 1, f', t', by omega, rfl, by go_num, HP6.out _⟩
    · obtain rfl : j = ls.length := by omega
      rw [List.take_length] at hP
      clear HG hlr
      have hQ0 := hP.q hr2
      rw [hml] at hQ0
      clear hP hr2
      obtain ⟨A, hA⟩ : ∃ A, idxOf k ls = A := ⟨_, rfl⟩
      rw [hA] at hQ0
      obtain ⟨aa, acap, rfl⟩ := hQ0.row.shpU
      go_wp2_with fail
      go_loopg [15] ds.length (fun g ii wx => ∃ (i : Nat) (t : TS) (r : RT), i ≤ ds.length ∧ g = ds.length - i ∧ ii = .int .i64 i ∧ Q22 wb wx fb b rb f t r (ls.length + i) ls (.slice aa A.length acap) A)
      case atStart => exact ⟨0, t, r, by omega, by omega, rfl, hQ0⟩
      case round =>
        clear hQ0
        obtain ⟨i, t, r, hi, hg, rfl, hQ⟩ := hrel
        have HG := Lib.hid hg
        clear hg
        by_cases hlt2 : i < ds.length
        · have hlt2' := hlt2
          rcases hdr with hdr | ⟨db, dO, rfl, hdb, hdr⟩
          · rw [hdr] at hlt2'; simp at hlt2'
          have hp0 := hdr i hlt2'
          obtain ⟨hp1, hp2⟩ := wf_u64 (hN _ (List.getElem_mem hlt2'))
          obtain ⟨p, hp⟩ := Int.eq_ofNat_of_zero_le hp1
          rw [hp] at hp0 hp2
          have hp64 : p < 18446744073709551616 := by omega
          have q0 := fun (W : World) (hc : Chg [] wr W) => tstoreO_calls W b t (hQ.chg0 hc).st.two.tr
          have hS0 : ∀ W, Chg [] wr W → S22 db (dO + i) p rb r.c W := fun W hc => (hQ.chg0 hc).s hdb hp0
          have q1 := fun (W : World) (hc : Chg [] wr W) => (hQ.chg0 hc).drop1 hp64
          have q2 := fun (W : World) (e : Ending) (w1 : World) (hc : Chg [] wr W) (hs : Side1 (t.foot b ++ r.foot rb) W b rb r (ls.length + i + 1) (dDrop r.d.ns p) t (.int .i64 (dDropE r.d.ns p)) e w1) => (hQ.chg0 hc).drop2 hs hdb hp0
          have q3 := fun (W : World) (e : Ending) (w1 : World) (e2 : Ending) (w2 : World) (hc : Chg [] wr W) (hs : Side1 (t.foot b ++ r.foot rb) W b rb r (ls.length + i + 1) (dDrop r.d.ns p) t (.int .i64 (dDropE r.d.ns p)) e w1) (hq : DP w1 r.c r.d (dDrop r.d.ns p) (.int .i64 (dDropE r.d.ns p)) e2 w2) => (hQ.chg0 hc).drop3 hs hq hdb hp0
          have Q0 := Lib.hid q0
          have Q1 := Lib.hid q1
          have Q2 := Lib.hid q2
          have Q3 := Lib.hid q3
          have S0 := Lib.hid hS0
          have hp0i : (0 : Int) ≤ (i : Int) := by omega
          have hp1i : (i : Int) < (ds.length : Int) := by omega
          clear q0 q1 q2 q3 hS0 hQ hdr hp0 hp hp1 hp2 hN hI
          generalize dDropE r.d.ns p = E at *
          have hee : (E != E) = false := by simp
          go_upto_region 20 with (fail)
          have hC8 : Chg [] wr wr.drew := (Chg.refl _ _).drew
          have hS := S0.out _ hC8
          refine wp_region_noPanic ?_
          refine wp_region_held_drew (S := (fun W => S22 db (dO + i) p rb r.c W)) (by kernel_rfl) (by exact hS) (fun hHeld => ?_)
          have hHeldX := hHeld
          refine wpAnyH_take (i := 0) (v := ?_) rfl (by kernel_rfl) (by kernel_rfl) (by kernel_rfl) (fun _ _ _ h => h) (Or.inl ⟨by rfl, ?_⟩) (by first | assumption | exact hHeldX) ?_
          rotate_left
          · intro w hSw
            (try dsimp only at hSw)
            go_simp
            try with_reducible rfl
          try simp only [List.getElem_toArray, List.getElem_cons_zero, List.getElem_cons_succ, Act.put, List.setIfInBounds_toArray, List.set_cons_zero, List.set_cons_succ]
          refine wpAnyH_take (i := 2) (v := ?_) rfl (by kernel_rfl) (by kernel_rfl) (by kernel_rfl) (fun _ _ _ h => h) (Or.inl ⟨by rfl, ?_⟩) (by first | assumption | exact hHeldX) ?_
          rotate_left
          · intro w hSw
            (try dsimp only at hSw)
            go_simp
            try with_reducible rfl
          try simp only [List.getElem_toArray, List.getElem_cons_zero, List.getElem_cons_succ, Act.put, List.setIfInBounds_toArray, List.set_cons_zero, List.set_cons_succ]
          refine wpAnyH_take (i := 3) (v := ?_) rfl (by kernel_rfl) (by kernel_rfl) (by kernel_rfl) (fun _ _ _ h => h) (Or.inl ⟨by rfl, ?_⟩) (by first | assumption | exact hHeldX) ?_
          rotate_left
          · intro w hSw
            (try dsimp only at hSw)
            go_simp
            try with_reducible rfl
          try simp only [List.getElem_toArray, List.getElem_cons_zero, List.getElem_cons_succ, Act.put, List.setIfInBounds_toArray, List.set_cons_zero, List.set_cons_succ]
          refine wpAnyH_take (i := 4) (v := ?_) rfl (by kernel_rfl) (by kernel_rfl) (by kernel_rfl) (fun _ _ _ h => h) (Or.inl ⟨by rfl, ?_⟩) (by first | assumption | exact hHeldX) ?_
          rotate_left
          · intro w hSw
            (try dsimp only at hSw)
            go_simp
            try with_reducible rfl
          try simp only [List.getElem_toArray, List.getElem_cons_zero, List.getElem_cons_succ, Act.put, List.setIfInBounds_toArray, List.set_cons_zero, List.set_cons_succ]
          refine wpAnyH_take (i := 5) (v := ?_) rfl (by kernel_rfl) (by kernel_rfl) (by kernel_rfl) (fun _ _ _ h => h) (Or.inl ⟨by rfl, ?_⟩) (by first | assumption | exact hHeldX) ?_
          rotate_left
          · intro w hSw
            (try dsimp only at hSw)
            obtain ⟨hSw1, hSw2, hSw3, hSw4⟩ := hSw
            go_simp
            try with_reducible rfl
          try simp only [List.getElem_toArray, List.getElem_cons_zero, List.getElem_cons_succ, Act.put, List.setIfInBounds_toArray, List.set_cons_zero, List.set_cons_succ]
          refine wpAnyH_take (i := 7) (v := ?_) rfl (by kernel_rfl) (by kernel_rfl) (by kernel_rfl) (fun _ _ _ h => h) (Or.inl ⟨by rfl, ?_⟩) (by first | assumption | exact hHeldX) ?_
          rotate_left
          · intro w hSw
            (try dsimp only at hSw)
            go_simp
            try with_reducible rfl
          try simp only [List.getElem_toArray, List.getElem_cons_zero, List.getElem_cons_succ, Act.put, List.setIfInBounds_toArray, List.set_cons_zero, List.set_cons_succ]
          refine wpAnyH_take (i := 8) (v := ?_) rfl (by kernel_rfl) (by kernel_rfl) (by kernel_rfl) (fun _ _ _ h => h) (Or.inl ⟨by rfl, ?_⟩) (by first | assumption | exact hHeldX) ?_
          rotate_left
          · intro w hSw
            (try dsimp only at hSw)
            go_simp
            try with_reducible rfl
          try simp only [List.getElem_toArray, List.getElem_cons_zero, List.getElem_cons_succ, Act.put, List.setIfInBounds_toArray, List.set_cons_zero, List.set_cons_succ]
          refine wpAnyH_take (i := 9) (v := ?_) rfl (by kernel_rfl) (by kernel_rfl) (by kernel_rfl) (fun _ _ _ h => h) (Or.inl ⟨by rfl, ?_⟩) (by first | assumption | exact hHeldX) ?_
          rotate_left
          · intro w hSw
            (try dsimp only at hSw)
            go_simp
            try with_reducible rfl
          try simp only [List.getElem_toArray, List.getElem_cons_zero, List.getElem_cons_succ, Act.put, List.setIfInBounds_toArray, List.set_cons_zero, List.set_cons_succ]
          refine wpAnyH_take (i := 10) (v := ?_) rfl (by kernel_rfl) (by kernel_rfl) (by kernel_rfl) (fun _ _ _ h => h) (Or.inl ⟨by rfl, ?_⟩) (by first | assumption | exact hHeldX) ?_
          rotate_left
          · intro w hSw
            (try dsimp only at hSw)
            obtain ⟨hSw1, hSw2, hSw3, hSw4⟩ := hSw
            go_simp
            try with_reducible rfl
          try simp only [List.getElem_toArray, List.getElem_cons_zero, List.getElem_cons_succ, Act.put, List.setIfInBounds_toArray, List.set_cons_zero, List.set_cons_succ]
          refine wpAnyH_take (i := 11) (v := ?_) rfl (by kernel_rfl) (by kernel_rfl) (by kernel_rfl) (fun _ _ _ h => h) (Or.inl ⟨by rfl, ?_⟩) (by first | assumption | exact hHeldX) ?_
          rotate_left
          · intro w hSw
            (try dsimp only at hSw)
            go_simp
            try with_reducible rfl
          try simp only [List.getElem_toArray, List.getElem_cons_zero, List.getElem_cons_succ, Act.put, List.setIfInBounds_toArray, List.set_cons_zero, List.set_cons_succ]
          refine wpAnyH_take (i := 12) (v := ?_) rfl (by kernel_rfl) (by kernel_rfl) (by kernel_rfl) (fun _ _ _ h => h) (Or.inl ⟨by rfl, ?_⟩) (by first | assumption | exact hHeldX) ?_
          rotate_left
          · intro w hSw
            (try dsimp only at hSw)
            go_simp
            try with_reducible rfl
          try simp only [List.getElem_toArray, List.getElem_cons_zero, List.getElem_cons_succ, Act.put, List.setIfInBounds_toArray, List.set_cons_zero, List.set_cons_succ]
          refine wpAnyH_take (i := 13) (v := ?_) rfl (by kernel_rfl) (by kernel_rfl) (by kernel_rfl) (fun _ _ _ h => h) (Or.inl ⟨by rfl, ?_⟩) (by first | assumption | exact hHeldX) ?_
          rotate_left
          · intro w hSw
            (try dsimp only at hSw)
            go_simp
            try with_reducible rfl
          try simp only [List.getElem_toArray, List.getElem_cons_zero, List.getElem_cons_succ, Act.put, List.setIfInBounds_toArray, List.set_cons_zero, List.set_cons_succ]
          refine wpAnyH_take (i := 14) (v := ?_) rfl (by kernel_rfl) (by kernel_rfl) (by kernel_rfl) (fun _ _ _ h => h) (Or.inl ⟨by rfl, ?_⟩) (by first | assumption | exact hHeldX) ?_
          rotate_left
          · intro w hSw
            (try dsimp only at hSw)
            obtain ⟨hSw1, hSw2, hSw3, hSw4⟩ := hSw
            go_simp
            try with_reducible rfl
          try simp only [List.getElem_toArray, List.getElem_cons_zero, List.getElem_cons_succ, Act.put, List.setIfInBounds_toArray, List.set_cons_zero, List.set_cons_succ]
          refine wpAnyH_ready (rs := [1]) (by kernel_rfl) (by simp) ?_
          refine AllReadyH.cons rfl (fun K hK => ?_) ?_
          go_simp
          go_at_call 16; refine (Q0.out _ hC8).mono ?_; rintro e w8 ⟨rfl, hc1⟩
          go_wp2_with fail
          refine hK.out _ _ (by exact S0.out _ (hC8.nil_trans hc1)) (fun hHeld => ?_)
          clear hK K
          try simp only [List.getElem_toArray, List.getElem_cons_zero, List.getElem_cons_succ, Act.put, List.setIfInBounds_toArray, List.set_cons_zero, List.set_cons_succ]
          rotate_left
          exact AllReadyH.nil
          have hC9 := hC8.nil_trans hc1
          refine wpAnyH_ready (rs := [6]) (by kernel_rfl) (by simp) ?_
          refine AllReadyH.cons rfl (fun K hK => ?_) ?_
          go_simp
          go_at_call 23; refine (Q1.out _ hC9).mono ?_; intro e w9 hp; have he := hp.1; subst he
          go_wp2_with fail
          refine hK.out _ _ (by exact (Q2.out _ _ _ hC9 hp).2) (fun hHeld => ?_)
          clear hK K
          try simp only [List.getElem_toArray, List.getElem_cons_zero, List.getElem_cons_succ, Act.put, List.setIfInBounds_toArray, List.set_cons_zero, List.set_cons_succ]
          rotate_left
          exact AllReadyH.nil
          refine wpAnyH_ready (rs := [15]) (by kernel_rfl) (by simp) ?_
          refine AllReadyH.cons rfl (fun K hK => ?_) ?_
          go_simp
          go_at_call 24; refine (Q2.out _ _ _ hC9 hp).1.mono ?_; intro e2 w10 hq; have he2 := hq.1; subst he2
          go_wp2_with fail
          refine hK.out _ _ (by exact (Q3.out _ _ _ _ _ hC9 hp hq).2) (fun hHeld => ?_)
          clear hK K
          try simp only [List.getElem_toArray, List.getElem_cons_zero, List.getElem_cons_succ, Act.put, List.setIfInBounds_toArray, List.set_cons_zero, List.set_cons_succ]
          rotate_left
          exact AllReadyH.nil
          refine wpAnyH_take (i := 16) (v := ?_) rfl (by kernel_rfl) (by kernel_rfl) (by kernel_rfl) (fun _ _ _ h => h) (Or.inl ⟨by rfl, ?_⟩) (by first | assumption | exact hHeldX) ?_
          rotate_left
          · intro w hSw
            (try dsimp only at hSw)
            go_simp
            try with_reducible rfl
          try simp only [List.getElem_toArray, List.getElem_cons_zero, List.getElem_cons_succ, Act.put, List.setIfInBounds_toArray, List.set_cons_zero, List.set_cons_succ]
          refine wpAnyH_done (by kernel_rfl) ?_ _
          refine NoPanic.normal ?_
          go_wp2
          obtain ⟨⟨t', r', hQ'⟩, _⟩ := Q3.out _ _ _ _ _ hC9 hp hq
          go_roundg (ds.length - (i + 1))
          case measure => rw [HG.out]; omega
          case rel => exact ⟨i + 1, t', r', by omega, rfl, by go_num, hQ'⟩
        · obtain rfl : i = ds.length := by omega
          clear HG hdr hN
          have hAl : A.length ≤ 100 := by
            have := idxOf_length k ls
            rw [hA] at this
            omega
          have hAm : ∀ i ∈ A, i < ls.length := fun i hi => by
            rw [← hA] at hi
            unfold idxOf at hi
            exact List.mem_range.1 (List.mem_filter.1 hi).1
          go_upto_region 22 with (fail)
          by_cases hnil : A = []
          · obtain ⟨gE, hgE⟩ : ∃ gE, gE = dE r.d := ⟨_, rfl⟩
            obtain ⟨gH, hgH⟩ : ∃ gH, gH = dH r.d := ⟨_, rfl⟩
            have hb1 : pvE gE ls.length A = 32 := if_pos hnil
            have hb2 : pvL gE gH ls.length A = [] := by
              unfold pvL
              rw [hb1]
              rfl
            have hAz : A.length = 0 := by rw [hnil]; rfl
            have hbx2 := rng?_chg hQ.chg hbx (by omega) (by simp)
            have hgO : True := trivial
            clear hbx
            rw [hAz] at hQ
            rw [hAz]
            obtain ⟨ws, rfl⟩ : ∃ ws : World, ws = wr := ⟨_, rfl⟩
            go_wp2_with fail
            go_loopg [16, 17, 18] 0 (fun g uu vv ii wx => g = 0 ∧ uu = .int .i64 32 ∧ vv = .slice none 0 0 ∧ ii = .int .i64 0 ∧ Chg [] ws wx)
            case atStart => exact ⟨rfl, rfl, rfl, rfl, Chg.refl _ _⟩
            case round =>
              obtain ⟨hg3, rfl, rfl, rfl, hC3⟩ := hrel
              clear hg3
              have hQz := hQ.chg0 hC3
              have hbz := rng?_chg hC3 hbx2 (by have := World.block_lt_of_cell? _ _ ((rng?_cell hbx2).2 0 (by rw [(rng?_cell hbx2).1]; omega)); omega) (by simp)
              have hpr := hQz.prove (by omega) k
              rw [hA, ← hgE, ← hgH] at hpr
              have hee : ((32 : Int) != (32 : Int)) = false := by simp
              have hcz := hcb.nil_trans hQz.chg
              have haw := fun W => awakeF_calls W
              have hzl := World.block_lt_of_cell? _ _ ((rng?_cell hbz).2 0 (by rw [(rng?_cell hbz).1]; omega))
              have HAW := Lib.hid haw
              have HPR := Lib.hid hpr
              clear hpr haw hQz hQ hgE hgH hgO hAm hbx2
              go_wp2_with (go_at_call 27; refine HPR.out.mono ?_; rintro e w7 ⟨gv, ps2, rfl, hP7, hd7, hc7⟩; rw [hb2, List.map_eq_nil_iff] at hd7; subst hd7; obtain ⟨ga, gcap, rfl⟩ := hP7.shp; rw [hb1])
              go_loopg [25] 0 (fun g ii wx => g = 0 ∧ ii = .int .i64 0 ∧ Chg [] w7 wx)
              case atStart => exact ⟨rfl, rfl, Chg.refl _ _⟩
              case round =>
                obtain ⟨hg4, rfl, hC4⟩ := hrel
                clear hg4
                go_wp2_with (go_at_call 29; refine (HAW.out _).mono ?_; rintro e w9 ⟨rfl, hc9⟩)
                go_ret
                exact ⟨rfl, ((hcz.nil_trans hc7).nil_trans hC4).nil_trans hc9⟩
          · have hAp : 0 < A.length := List.length_pos_iff.2 hnil
            have hA0 : ((A.length : Int) == 0) = false := by rw [beq_eq_false_iff_ne]; omega
            obtain ⟨gE, hgE⟩ : ∃ gE, gE = dE r.d := ⟨_, rfl⟩
            obtain ⟨gH, hgH⟩ : ∃ gH, gH = dH r.d := ⟨_, rfl⟩
            have hgO : ∀ p, IsHash (gH p) := fun p => by rw [hgH]; exact hQ.getOk p
            obtain ⟨ws, rfl⟩ : ∃ ws : World, ws = wr := ⟨_, rfl⟩
            obtain ⟨aa', acap', hav, hac⟩ := hQ.row.cells
            injection hav with e1 e2 e3
            subst e1 e3
            rcases hac with hac | ⟨ab, aO, rfl, hab, hac⟩
            · exact absurd hac hnil
            have hbx2 := rng?_chg hQ.chg hbx (by omega) (by simp)
            clear hbx
            go_wp2_with fail
            go_loopg [16, 17, 18] A.length (fun g uu vv ii wx => ∃ (j : Nat) (ps : List PR), j ≤ A.length ∧ g = A.length - j ∧ uu = .int .i64 0 ∧ ii = .int .i64 j ∧ PsOwn wx ws.heap.size vv ps ∧ ps.map PR.dat = (A.take j).map (pvOf gH ls.length) ∧ (∀ i ∈ A.take j, atE gE (placesN i ls.length) = 0) ∧ Chg [] ws wx)
            case atStart => exact ⟨0, [], by omega, by omega, rfl, rfl, PsOwn.nil _ _, by simp, by simp, Chg.refl _ _⟩
            case round =>
              obtain ⟨j, ps, hj, hg, rfl, rfl, hP, hdat, hE, hC⟩ := hrel
              have HG := Lib.hid hg
              clear hg
              have hpl : ps.length = j := by
                have := congrArg List.length hdat
                rw [List.length_map, List.length_map, List.length_take] at this
                omega
              by_cases hlt3 : j < A.length
              · have hlt3' := hlt3
                have hcell := (hC.cell (p := ⟨ab, aO + j, none⟩) hab (by simp)).trans (hac j hlt3')
                have hbl := World.block_lt_of_cell? _ _ hcell
                have htk : A.take (j + 1) = A.take j ++ [A[j]] := List.take_succ_eq_append_getElem hlt3'
                have hin := hAm _ (List.getElem_mem hlt3')
                have hpla := fun W => r7places_ok A[j] ls.length hin (by omega) W
                have hat := fun (W : World) (pv : Value) (B : Nat) (hc : Chg [] ws W) (hU : UOwn W B pv (placesN A[j] ls.length)) => (hQ.chg0 hc).at hU (placesN_64 hin (by omega)) (placesN_len hin (by omega))
                rw [← hgE, ← hgH] at hat
                have hat0 := fun (h0 : atE gE (placesN A[j] ls.length) = 0) (W : World) (pv : Value) (B : Nat) (hc : Chg [] ws W) (hU : UOwn W B pv (placesN A[j] ls.length)) => (hat W pv B hc hU).mono (fun e w' h => h.zero h0)
                have hat1 := fun (W : World) (pv : Value) (B : Nat) (hc : Chg [] ws W) (hU : UOwn W B pv (placesN A[j] ls.length)) => (hat W pv B hc hU).mono (fun e w' h => h.bad)
                have hE2 : atE gE (placesN A[j] ls.length) = 0 → ∀ i ∈ A.take (j + 1), atE gE (placesN i ls.length) = 0 := fun h0 i hi => by
                  rw [htk] at hi
                  rcases List.mem_append.1 hi with q | q
                  · exact hE i q
                  · rw [List.mem_singleton.1 q]; exact h0
                have hmap : (A.take (j + 1)).map (pvOf gH ls.length) = ps.map PR.dat ++ [(ls.length, A[j], (placesN A[j] ls.length).map gH)] := by rw [htk, List.map_append, hdat]; rfl
                have hbad : atE gE (placesN A[j] ls.length) ≠ 0 → pvE gE ls.length A = atE gE (placesN A[j] ls.length) ∧ pvL gE gH ls.length A = [] := fun h0 => by
                  have he : pvE gE ls.length A = atE gE (placesN A[j] ls.length) := by
                    unfold pvE
                    rw [if_neg hnil]
                    refine atE_first (gE := fun i => atE gE (placesN i ls.length)) j hlt3' (fun i hi => ?_) h0
                    exact hE _ (by have := List.getElem_mem (l := A.take j) (n := i) (by rw [List.length_take]; omega); rwa [List.getElem_take] at this)
                  refine ⟨he, ?_⟩
                  unfold pvL
                  rw [he, if_neg h0]
                have HM := Lib.hid hmap
                have HE2 := Lib.hid hE2
                have HB := Lib.hid hbad
                have HA0 := Lib.hid hat0
                have HA1 := Lib.hid hat1
                have hlen9 : ((placesN A[j] ls.length).map gH).length = (placesN A[j] ls.length).length := List.length_map _
                clear htk hmap hE2 hbad hat0 hat1 hat hE hdat hac
                generalize (placesN A[j] ls.length).map gH = hs at *
                generalize placesN A[j] ls.length = pl at *
                generalize hE' : atE gE pl = E at *
                generalize A[j] = i at *
                by_cases hE0 : E = 0
                · subst hE0
                  have ha := HA0.out rfl
                  have he2 := HE2.out rfl
                  clear HA0 HE2 HB HA1
                  have HA0 := Lib.hid ha
                  have HE2 := Lib.hid he2
                  clear ha he2
                  go_upto_region 31 with (first
                    | (go_at_call 25; refine (hpla _).mono ?_; rintro e w3 ⟨qa, qcap, rfl, hU3, hc3⟩)
                    | (go_at_call 26; refine (HA0.out _ _ _ (hC.nil_trans hc3) hU3).mono ?_; rintro e w4 ⟨na, ncap, rfl, hO4, hc4⟩))
                  have hcell4 := ((hc3.nil_trans hc4).cell (p := ⟨ab, aO + j, none⟩) hbl (by simp)).trans hcell
                  have hbl4 := World.block_lt_of_cell? _ _ hcell4
                  have hP4 := (hP.chg0 hc3).chg0 hc4
                  have hCw := (hC.nil_trans hc3).nil_trans hc4
                  have hO4' : HOwn w4 ws.heap.size (.slice na pl.length ncap) hs := ⟨own_mono hO4.1 (by have := hC.size; have := hc3.size; omega), hO4.2⟩
                  have hap : ∀ y ∈ ob (.slice na pl.length ncap), y ∉ ob _ := fun y hy hy2 => by
                    have h1 := (own_lt hO4.1 y hy).1
                    have h2 := (own_lt hP.row y hy2).2
                    have := hc3.size
                    omega
                  obtain ⟨v2, w6, hrun, hP6, hc6, hob6⟩ := hP4.push ⟨ls.length, i, .slice na pl.length ncap, hs⟩ hO4' hap (by omega) hCw.size 53
                  dsimp only at hrun
                  have hol := own_lt hP4.row
                  have HW : Chg [] ws w6 := hCw.trans hc6 (fun y hy => .inr (hol y hy).1)
                  have HP6 := Lib.hid hP6
                  clear hP6 hc6 hob6 hP4 hO4 hO4' hap hol hP hU3 HA0 hQ hgE hgH
                  go_wp2_with (at_builtin; refine Lib.wpList_append_run _ rfl _ _ _ _ rfl _ _ rfl rfl _ _ hrun ?_)
                  go_roundg (A.length - (j + 1))
                  case measure => rw [HG.out]; omega
                  case rel => exact ⟨j + 1, ps ++ [⟨ls.length, i, .slice na pl.length ncap, hs⟩], by omega, rfl, rfl, by go_num, HP6.out, by rw [HM.out, List.map_append]; rfl, HE2.out, HW⟩
                · have hne : (E != 0) = true := by rw [bne_iff_ne]; exact hE0
                  obtain ⟨hb1, hb2⟩ := HB.out hE0
                  clear HA0 HE2 HB HM hP
                  have hn0 : (E == 0) = false := by rw [beq_eq_false_iff_ne]; exact hE0
                  go_upto_region 31 with (first
                    | (go_at_call 25; refine (hpla _).mono ?_; rintro e w3 ⟨qa, qcap, rfl, hU3, hc3⟩)
                    | (go_at_call 26; refine (HA1.out _ _ _ (hC.nil_trans hc3) hU3).mono ?_; rintro e w4 ⟨na, nn, ncap, rfl, hc4⟩))
                  have hQz := hQ.chg0 ((hC.nil_trans hc3).nil_trans hc4)
                  have hbz := rng?_chg ((hC.nil_trans hc3).nil_trans hc4) hbx2 (by have := World.block_lt_of_cell? _ _ ((rng?_cell hbx2).2 0 (by rw [(rng?_cell hbx2).1]; omega)); omega) (by simp)
                  clear hU3 HA1 hpla
                  have hpr := hQz.prove (by omega) k
                  rw [hA, ← hgE, ← hgH] at hpr
                  have hee : (E != E) = false := by simp
                  have hcz := hcb.nil_trans hQz.chg
                  have haw := fun W => awakeF_calls W
                  have hzl := World.block_lt_of_cell? _ _ ((rng?_cell hbz).2 0 (by rw [(rng?_cell hbz).1]; omega))
                  have HAW := Lib.hid haw
                  have HPR := Lib.hid hpr
                  clear hpr haw hQz hQ hgE hgH hgO hAm hbx2
                  go_wp2_with (go_at_call 27; refine HPR.out.mono ?_; rintro e w7 ⟨gv, ps2, rfl, hP7, hd7, hc7⟩; rw [hb2, List.map_eq_nil_iff] at hd7; subst hd7; obtain ⟨ga, gcap, rfl⟩ := hP7.shp; rw [hb1])
                  go_loopg [25] 0 (fun g ii wx => g = 0 ∧ ii = .int .i64 0 ∧ Chg [] w7 wx)
                  case atStart => exact ⟨rfl, rfl, Chg.refl _ _⟩
                  case round =>
                    obtain ⟨hg4, rfl, hC4⟩ := hrel
                    clear hg4
                    go_wp2_with (go_at_call 29; refine (HAW.out _).mono ?_; rintro e w9 ⟨rfl, hc9⟩)
                    go_ret
                    exact ⟨rfl, ((hcz.nil_trans hc7).nil_trans hC4).nil_trans hc9⟩
              · obtain rfl : j = A.length := by omega
                rw [List.take_length] at hdat hE
                clear HG hac
                have hez : pvE gE ls.length A = 0 := by
                  unfold pvE
                  rw [if_neg hnil]
                  exact atE_all hE
                have hdz : ps.map PR.dat = pvL gE gH ls.length A := by
                  unfold pvL
                  rw [hez, if_pos rfl]
                  exact hdat
                have hQz := hQ.chg0 hC
                have hbz := rng?_chg hC hbx2 (by have := World.block_lt_of_cell? _ _ ((rng?_cell hbx2).2 0 (by rw [(rng?_cell hbx2).1]; omega)); omega) (by simp)
                have hsl : ∀ x ∈ ps, x.hs.length ≤ 125 := fun x hx => by
                  have h1 : x.dat ∈ A.map (pvOf gH ls.length) := by rw [← hdat]; exact List.mem_map.2 ⟨x, hx, rfl⟩
                  obtain ⟨i, hi, he⟩ := List.mem_map.1 h1
                  have h2 : (placesN i ls.length).map gH = x.hs := congrArg (·.2.2) he
                  rw [← h2, List.length_map]
                  exact placesN_len (hAm i hi) (by omega)
                have hpr := hQz.prove (by omega) k
                rw [hA, ← hgE, ← hgH] at hpr
                have hcz := hcb.nil_trans hQz.chg
                have haw := fun W => awakeF_calls W
                have hzl := World.block_lt_of_cell? _ _ ((rng?_cell hbz).2 0 (by rw [(rng?_cell hbz).1]; omega))
                obtain ⟨sa, scap, rfl⟩ := hP.shp
                have hln : ((ps.length : Int) != (ps.length : Int)) = false := by simp
                have hpb1 : ps.length ≤ 100 := by omega
                have HAW := Lib.hid haw
                have HPR := Lib.hid hpr
                have HSL := Lib.hid hsl
                have HEZ := Lib.hid hez
                have HDZ := Lib.hid hdz
                clear hpr haw hQz hQ hgE hgH hgO hAm hbx2 hsl hdat hE hez hdz
                go_wp2_with (go_at_call 27; refine HPR.out.mono ?_; rintro e w7 ⟨gv, ps2, rfl, hP7, hd7, hc7⟩; rw [HEZ.out, ← HDZ.out] at *; obtain ⟨ga, gcap, hgv⟩ := hP7.shp; rw [show ps2.length = ps.length from by have := congrArg List.length hd7; rwa [List.length_map, List.length_map] at this] at hgv; subst hgv)
                go_loopg [25] ps.length (fun g ii wx => ∃ q : Nat, q ≤ ps.length ∧ g = ps.length - q ∧ ii = .int .i64 q ∧ Chg [] w7 wx)
                case atStart => exact ⟨0, by omega, by omega, rfl, Chg.refl _ _⟩
                case round =>
                  obtain ⟨q, hq, hg, rfl, hC4⟩ := hrel
                  have HG := Lib.hid hg
                  clear hg
                  by_cases hlt4 : q < ps.length
                  · have hlt4' := hlt4
                    have hl2 : ps2.length = ps.length := by have := congrArg List.length hd7; rwa [List.length_map, List.length_map] at this
                    have hq2 : q < ps2.length := by omega
                    have hde : (ps2[q]).dat = (ps[q]).dat := by
                      have := congrArg (·[q]?) hd7
                      simp only [List.getElem?_map] at this
                      rw [List.getElem?_eq_getElem hq2, List.getElem?_eq_getElem hlt4'] at this
                      exact Option.some.inj this
                    have hsl := HSL.out _ (List.getElem_mem hlt4')
                    have hCp := hc7.nil_trans hC4
                    have hPr := hP.chg0 hCp
                    have hPg := hP7.chg0 hC4
                    have ho1 := fun (W : World) (hc : Chg [] wr W) => ((hPr.own _ (List.getElem_mem hlt4')).chg hc (by simp)).hs
                    have ho2 := fun (W : World) (hc : Chg [] wr W) => ((hPg.own _ (List.getElem_mem hq2)).chg hc (by simp)).hs
                    obtain ⟨a1, cap1, hv1, hr1⟩ := hPr.cells
                    obtain ⟨a2, cap2, hv2, hr2⟩ := hPg.cells
                    rw [hl2] at hv2
                    injection hv1 with e1 _ e3
                    injection hv2 with e4 _ e6
                    subst e1 e3 e4 e6
                    rcases hr1 with hr1 | ⟨g1, rfl, hg1, hr1⟩
                    · rw [hr1] at hlt4'; simp at hlt4'
                    rcases hr2 with hr2 | ⟨g2, rfl, hg2, hr2⟩
                    · rw [hr2] at hq2; simp at hq2
                    obtain ⟨x0, x1, x2⟩ := hr1 q hlt4'
                    obtain ⟨y0, y1, y2⟩ := hr2 q hq2
                    injection hde with d1 d2
                    injection d2 with d2 d3
                    rw [d1] at y0
                    rw [d2] at y1
                    rw [d3] at ho2
                    have hsm := fun (W : World) (hc : Chg [] wr W) => sameP_calls W (ps[q]).n (ps[q]).i (ps2[q]).sv (ps[q]).sv (ps[q]).hs (ho2 W hc) (ho1 W hc) (by omega)
                    have hq0 : (0 : Int) ≤ (q : Int) := by omega
                    have hq1 : (q : Int) < (ps.length : Int) := by omega
                    generalize (ps2[q]).sv = ys at y2 hsm
                    generalize (ps[q]).n = xn at x0 y0 hsm
                    generalize (ps[q]).i = xi at x1 y1 hsm
                    generalize (ps[q]).sv = xs at x2 hsm
                    clear hr1 hr2 d1 d2 d3 ho1 ho2 hPr hPg hd7 hsl HSL HDZ hP7 hP hq2 hl2
                    go_upto_region 41 with (fail)
                    refine wp_region_quiet_below (by kernel_rfl) (by kernel_rfl) ?_
                    repeat (any_goals (go_big_quiet_step ((go_at_call 28; exact rg_of hsm _ _))))
                    refine wpQuiet_nil ?_
                    rintro w8 ⟨r8, rfl⟩
                    have hC8 : Chg [] wr (Go.Sort.grow (redrawn wr r8.d) r8.os) := chg_regrown _ _ _
                    generalize Go.Sort.grow (redrawn wr r8.d) r8.os = w8 at *
                    go_wp2
                    go_roundg (ps.length - (q + 1))
                    case measure => rw [HG.out]; omega
                    case rel => exact ⟨q + 1, by omega, rfl, by go_num, hC4.nil_trans hC8⟩
                  · obtain rfl : q = ps.length := by omega
                    clear HG HSL HDZ hd7 hP7 hP
                    go_wp2_with (go_at_call 29; refine (HAW.out _).mono ?_; rintro e w9 ⟨rfl, hc9⟩)
                    go_ret
                    exact ⟨rfl, ((hcz.nil_trans hc7).nil_trans hC4).nil_trans hc9⟩
end Go.Proofs.YtpklkefnmoaaaaaGreatDoor

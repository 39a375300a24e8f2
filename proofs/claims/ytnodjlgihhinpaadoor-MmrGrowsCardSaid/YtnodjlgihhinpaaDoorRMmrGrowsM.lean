/- Texts put into one by pack.py: Goes GrS RMmrGrows. -/
import Derived.Conc.Holds
import Derived.ClaimOpenTies
import Derived.Handed
import Derived.SevenTiedAt
import Derived.Test.YtnodjlgihhinpaaDoorGrHM
import Derived.Test.YtnodjlgihhinpaaDoorLwAw
import Derived.Test.YtnodjlgihhinpaaDoorLaid
import Derived.Test.YtnodjlgihhinpaaDoorArg
import Derived.Test.YtnodjlgihhinpaaDoorTie
import Derived.Test.YtnodjlgihhinpaaDoorCards
import Derived.Test.YtnodjlgihhinpaaDoorGrM
/- A row that says 'leaving' (the program has goroutines elsewhere) of a call in one goroutine; its tied card that says 'goes'. Nothing of a program. -/
namespace Go.Proofs.YtnodjlgihhinpaaDoor
set_option linter.unusedVariables false
set_option linter.unusedSimpArgs false
theorem leaving_of_alone {P : Program} (m : Machine) (w : World) (t : Trace) (h : aloneAtReturn P m w t) : leavingAtReturn P m w t :=
  ⟨h.2.1, ⟨fun g hg => ⟨0, by
    have h1 := h.1.1
    unfold Machine.othersDone at h1
    have := List.all_eq_true.1 h1 g hg
    show g.status = .finished
    simpa using this⟩, h.1.2⟩, h.2.2⟩
theorem leaving_of_handed {a : Assume} {C : Checked} {os : Os} {f : FuncId} {r : Reach} {Pre : World → Array Value → Prop} {Post : World → Array Value → Value → World → Prop}
    (h : ReturnsInHanded a C os f r Pre Post) : ReturnsInLeavingWide a C os f r Pre Post := fun enter => ReturnsInOpen.mono (fun m w t q => leaving_of_alone m w t q) (fun _ q => q) (h enter)
theorem holds_tied_goes_at (Lk : Looks) {p : Pinned} {s : OpenSpec} {c : OpenClaim} (al : List (List PathCond)) (kinds : List LaidKind) (tests : Bool) (har : Bool × String) (lk : Bool)
    (hc : c.holds p s) (hal : ∀ D ∈ al, (c.withDomain D).holds p s) (hw : c.wfByText s = true) (hwal : ∀ D ∈ al, (c.withDomain D).wfByText s = true)
    (htie : c.laidByTextAt Lk p kinds tests)
    (hst : c.start = .entering) (hnb : c.noBlocks = false ∧ c.again = false) (hm : p.checked.prog.mainIs = some (har.1, har.2.toList)) (hn : (!har.1 && har.2.isEmpty && !lk) = false)
    (hl : ∀ f fn, p.checked.prog.funcNamed c.func = some f → p.checked.prog.funcs[f]? = some fn → lk = p.checked.prog.looks [] ∧ ∀ (j : Nat) t, fn.params[j]? = some t → p.checked.prog.wantsStandIn t = false)
    (hg : true = c.goesBy p.checked.prog) :
    Claim7.holds p (.plain s) { stood := { row := c, standIns := [], harness := har, looks := lk }, kinds := [], alts := al, goes := true, laidByText := true, laidKinds := kinds, laidTests := tests, laidLooks := Lk } := by
  have h6 : ∀ r : OpenClaim, Claim7.isSixth { stood := { row := r, standIns := [], harness := har, looks := lk }, kinds := [] } = false := fun r => by simpa [Claim7.isSixth] using hn
  refine ⟨Claim7.tied_new_at Lk kinds tests (Claim7.new_of_sixth hc har lk hst hnb hm (h6 c) hl) hw, fun D hD => ?_, htie, (fun h => by cases h), hg⟩
  exact Claim7.tied_new_at Lk kinds tests (Claim7.new_of_sixth (hal D hD) har lk hst hnb hm (h6 _) hl) (hwal D hD)
end Go.Proofs.YtnodjlgihhinpaaDoor

/- MmrGrows walked. -/
namespace Go.Proofs.YtnodjlgihhinpaaDoor
open Go.RowKit
set_option linter.unusedVariables false
set_option linter.unusedSimpArgs false

def GP (w : World) (G : List (Array Value)) (E : Nat) (e : Ending) (w' : World) : Prop := ∃ a cap, e = .returned (.tuple #[.slice a G.length cap, .int .i64 E]) ∧ HOwn w' w.heap.size (.slice a G.length cap) G ∧ Chg [] w w'
theorem both_grow (wd : Int) (hwd : -9223372036854775808 ≤ wd ∧ wd < 9223372036854775808) (ls : List (Array Value)) (hlen : ls.length ≤ 200) :
    ∃ (G : List (Array Value)) (E : Nat), G.length ≤ 1000 ∧ E ≤ 70 ∧ (∀ (w : World) lv, HsC w lv ls → Calls Tryd.prog 7 #[.int .i64 wd, lv] w (GP w G E)) ∧ (∀ (w : World) lv, HsIs w lv ls → HIs w → Calls Tryd.prog 8 #[.int .i64 wd, lv] w (GP w G E)) := by
  by_cases hp : popc ls.length = 1
  · obtain ⟨h, hh, e⟩ := (perf_iff (by omega)).1 hp
    have hg : rgL wd h ls = growL wd ls := rg_grow wd h ls e
    refine ⟨growL wd ls, 0, ?_, by omega, fun w lv hc => ?_, fun w lv hv hk => ?_⟩
    · rw [grow_len]; have := nodes_le ls.length; omega
    · refine (r6grow_pow wd h hh w lv ls hc e).mono ?_
      rintro e w' ⟨v, rfl, hO, hc⟩
      rw [hg] at hO
      obtain ⟨a, cap, rfl, _⟩ := hO.rowsN
      exact ⟨a, cap, rfl, hO, hc⟩
    · refine (mgrow_calls w wd hwd lv ls hv (by omega) hp hk).mono ?_
      rintro e w' ⟨v, rfl, hO, hc⟩
      obtain ⟨a, cap, rfl, _⟩ := hO.rowsN
      exact ⟨a, cap, rfl, hO, hc⟩
  · refine ⟨[], 70, by simp, by omega, fun w lv hc => ?_, fun w lv hv hk => ?_⟩
    · refine (r6grow_refuses wd w lv ls hc.1 (by omega) hp).mono ?_
      rintro e w' ⟨rfl, hc⟩
      exact ⟨none, 0, rfl, HOwn.nil _ _, hc⟩
    · refine (mgrow_refuses w wd lv ls hv (by omega) hp).mono ?_
      rintro e w' ⟨rfl, hc⟩
      exact ⟨none, 0, rfl, HOwn.nil _ _, hc⟩
set_option maxRecDepth 100000 in
set_option maxHeartbeats 8000000 in
theorem grows_main (w : World) (wd : Int) (hwd : -9223372036854775808 ≤ wd ∧ wd < 9223372036854775808) (lv : Value) (ls : List (Array Value)) (hc : HsC w lv ls) (hlen : ls.length ≤ 200) (hk : HIs w) :
    Calls Tryd.prog 3 #[.int .i64 wd, lv] w (Res w [] (.bool true)) := by
  obtain ⟨w0, rfl⟩ : ∃ w0 : World, w0 = w := ⟨_, rfl⟩
  obtain ⟨G, E, hG, hE, hRef, hGr⟩ := both_grow wd hwd ls hlen
  obtain ⟨a0, cap0, rfl⟩ : ∃ a cap, lv = .slice a ls.length cap := by obtain ⟨⟨_, a, cap, q, _⟩, _⟩ := hc; exact ⟨a, cap, q⟩
  have hrw := row_calls w0 _ ls hc.1 (by omega)
  have HRW := Lib.hid hrw
  have HRF := Lib.hid hRef
  have HGR := Lib.hid hGr
  have HC := Lib.hid hc
  have HK := Lib.hid hk
  obtain ⟨n, hn⟩ : ∃ n, ls.length = n := ⟨_, rfl⟩
  obtain ⟨m, hm⟩ : ∃ m, G.length = m := ⟨_, rfl⟩
  have HN := Lib.hid hn
  have HM := Lib.hid hm
  have hb : decide ((200 : Int) < (n : Int)) = false := by simp; omega
  have hee : ((E : Int) != (E : Int)) = false := by simp
  have hee2 : ((E : Int) == (E : Int)) = true := by simp
  rw [hn] at hlen
  rw [hm] at hG
  rw [HN.out]
  clear hrw hRef hGr hc hk hn hm
  go_enter Tryd.func3, Tryd.ntmps3
  go_wp2_with fail
  go_at_call 6
  rw [← HN.out]
  refine HRW.out.mono ?_
  rintro e w1 ⟨g, gcap, rfl, hgc, hgl, hO1, hO2, hc1⟩
  rw [HN.out] at hgc hO1 hO2 ⊢
  go_wp2_with fail
  go_at_call 7
  refine (HRF.out w1 _ (by have := HC.out.chg0 hc1; rw [HN.out] at this; exact this)).mono ?_
  rintro e w2 ⟨aw, capw, rfl, hOw, hc2⟩
  rw [HM.out] at hOw ⊢
  have HC2 := Lib.hid hc2
  go_wp2_with fail
  go_at_call 8
  refine (HGR.out w2 _ (hO2.hs.chg0 hc2) (HK.out.chg0 (hc1.nil_trans hc2))).mono ?_
  rintro e w3 ⟨aa, capa, rfl, hOa, hc3⟩
  rw [HM.out] at hOa ⊢
  go_wp2_with fail
  go_at_call 8
  refine (HGR.out w3 _ (hO2.hs.chg0 (hc2.nil_trans hc3)) (HK.out.chg0 ((hc1.nil_trans hc2).nil_trans hc3))).mono ?_
  rintro e w4 ⟨ab, capb, rfl, hOb, hc4⟩
  rw [HM.out] at hOb ⊢
  have c24 := hc3.nil_trans hc4
  have c14 := hc2.nil_trans c24
  have c04 := hc1.nil_trans c14
  have hA4 := hOa.hs.chg0 hc4
  have hW4 := hOw.hs.chg0 c24
  have hG4 := hO2.hs.chg0 c14
  have hL4 : HsIs w4 (.slice a0 n cap0) ls := by have := HC.out.1.chg0 c04; rw [HN.out] at this; exact this
  have hm4 : HOwn w4 w0.heap.size (.slice (some ⟨g, 0, none⟩) (n + 1) gcap) (ls ++ [hash1 171]) := hO1.chg c14 (by simp)
  have hGl : G.length ≤ 1000000 := by rw [HM.out]; omega
  have hnl : ls.length ≤ 1000000 := by rw [HN.out]; omega
  have S1 := Lib.hid (fun (W : World) (hW : Chg [] w4 W) => same_calls W _ _ G (hA4.chg0 hW) (hW4.chg0 hW) hGl)
  have S2 := Lib.hid (fun (W : World) (hW : Chg [] w4 W) => same_calls W _ _ G (hOb.hs.chg0 hW) (hW4.chg0 hW) hGl)
  have S3 := Lib.hid (fun (W : World) (hW : Chg [] w4 W) => same_calls W _ _ ls (hG4.chg0 hW) (hL4.chg0 hW) hnl)
  have S4 := Lib.hid (fun (W : World) (hW : Chg [] w4 W) => marked_calls W _ g gcap n ls (hm4.chg hW (by simp)) HN.out.symm hgc (by omega))
  clear hA4 hW4 hG4 hL4 hm4
  have HOA := Lib.hid hOa
  have HOB := Lib.hid hOb
  have HOW := Lib.hid hOw
  have HO1 := Lib.hid hO1
  have HO2 := Lib.hid hO2
  clear hOa hOb hOw hO1 hO2
  go_wp2_with fail
  go_at_call 9
  refine (S1.out _ (Chg.refl _ _)).mono ?_
  rintro e w5 ⟨rfl, d5⟩
  go_wp2_with fail
  go_at_call 9
  refine (S2.out _ d5).mono ?_
  rintro e w6 ⟨rfl, d6⟩
  replace d6 := d5.nil_trans d6
  go_wp2_with fail
  go_at_call 9
  refine (S3.out _ d6).mono ?_
  rintro e w7 ⟨rfl, d7⟩
  replace d7 := d6.nil_trans d7
  go_wp2_with fail
  go_at_call 10
  refine (S4.out _ d7).mono ?_
  rintro e w8 ⟨rfl, d8⟩
  replace d8 := d7.nil_trans d8
  clear S1 S2 S3 S4 d5 d6 d7
  have hOa8 : HOwn w8 w2.heap.size (.slice aa m capa) G := HOA.out.chg (hc4.nil_trans d8) (by simp)
  have hMA : Calls Tryd.prog 11 #[.slice aa m capa, .int .u8 201] w8 (MarkP w8 (.slice aa m capa) G.length (hash1 201)) := mark_calls w8 _ _ G hOa8 (by rw [HM.out]; omega) 201 (by omega)
  go_wp2_with fail
  go_at_call 11
  refine hMA.mono ?_
  rintro e w9 ⟨vx, rfl, hX, cX, bX⟩
  rw [HM.out] at hX
  obtain ⟨ax, capx, rfl, _⟩ := hX.rowsN
  rw [List.length_replicate] at hX bX ⊢
  have hOb9 : HOwn w9 w3.heap.size (.slice ab m capb) G := (HOB.out.chg d8 (by simp)).chg cX (fun k hk hk2 => by
    have := (own_lt HOB.out.1 k hk).1
    have := (own_lt HOA.out.1 k hk2).2
    omega)
  have hMB : Calls Tryd.prog 11 #[.slice ab m capb, .int .u8 202] w9 (MarkP w9 (.slice ab m capb) G.length (hash1 202)) := mark_calls w9 _ _ G hOb9 (by rw [HM.out]; omega) 202 (by omega)
  clear hMA hOa8 hOb9
  go_wp2_with fail
  go_at_call 11
  refine hMB.mono ?_
  rintro e w10 ⟨vy, rfl, hY, cY, bY⟩
  rw [HM.out] at hY
  obtain ⟨ay, capy, rfl, _⟩ := hY.rowsN
  rw [List.length_replicate] at hY bY ⊢
  have c210 : Chg [] w2 w10 := ((c24.nil_trans d8).trans cX (fun k hk => .inr (own_lt HOA.out.1 k hk).1)).trans cY (fun k hk => .inr (by
    have := (own_lt HOB.out.1 k hk).1
    have := hc3.size
    omega))
  have hX10 := hX.chg cY (fun k hk hk2 => by
    have h3 := own_lt HOB.out.1 k hk2
    rcases bX k hk with q | q
    · have := (own_lt HOA.out.1 k q).2
      omega
    · have := d8.size
      omega)
  have c110 := hc2.nil_trans c210
  have c010 := hc1.nil_trans c110
  have hW10 := HOW.out.hs.chg0 c210
  have hG10 := HO2.out.hs.chg0 c110
  have hL10 : HsIs w10 (.slice a0 n cap0) ls := by have := HC.out.1.chg0 c010; rw [HN.out] at this; exact this
  have hm10 : HOwn w10 w0.heap.size (.slice (some ⟨g, 0, none⟩) (n + 1) gcap) (ls ++ [hash1 171]) := HO1.out.chg c110 (by simp)
  have T1 := Lib.hid (fun (W : World) (hW : Chg [] w10 W) => (show Calls Tryd.prog 12 #[.slice ax (m + 2) capx, .int .u8 201] W (Res W [] (.bool true)) from all_calls W _ (m + 2) 201 (by omega) (hX10.hs.chg0 hW) (by omega)))
  have T2 := Lib.hid (fun (W : World) (hW : Chg [] w10 W) => (show Calls Tryd.prog 12 #[.slice ay (m + 2) capy, .int .u8 202] W (Res W [] (.bool true)) from all_calls W _ (m + 2) 202 (by omega) (hY.hs.chg0 hW) (by omega)))
  have T3 := Lib.hid (fun (W : World) (hW : Chg [] w10 W) => same_calls W _ _ ls (hG10.chg0 hW) (hL10.chg0 hW) hnl)
  have T4 := Lib.hid (fun (W : World) (hW : Chg [] w10 W) => marked_calls W _ g gcap n ls (hm10.chg hW (by simp)) HN.out.symm hgc (by omega))
  have T5 := Lib.hid (fun (W : World) (hW : Chg [] w10 W) => HGR.out W _ (hG10.chg0 hW) (HK.out.chg0 (c010.nil_trans hW)))
  have HW10 := Lib.hid hW10
  clear hX hX10 hY cX cY bX bY hMB hW10 hG10 hL10 hm10 d8 c24 c14 c04 c210 c110 hc1 hc2 hc3 hc4 HC2
  go_wp2_with fail
  go_at_call 12
  refine (T1.out _ (Chg.refl _ _)).mono ?_
  rintro e w11 ⟨rfl, d5⟩
  go_wp2_with fail
  go_at_call 12
  refine (T2.out _ d5).mono ?_
  rintro e w12 ⟨rfl, d6⟩
  replace d6 := d5.nil_trans d6
  go_wp2_with fail
  go_at_call 9
  refine (T3.out _ d6).mono ?_
  rintro e w13 ⟨rfl, d7⟩
  replace d7 := d6.nil_trans d7
  go_wp2_with fail
  go_at_call 10
  refine (T4.out _ d7).mono ?_
  rintro e w14 ⟨rfl, d8⟩
  replace d8 := d7.nil_trans d8
  go_wp2_with fail
  go_at_call 8
  refine (T5.out _ d8).mono ?_
  rintro e w15 ⟨ac, capc, rfl, hOc, d9⟩
  replace d9 := d8.nil_trans d9
  rw [HM.out] at hOc ⊢
  have hsc := same_calls w15 _ _ G hOc.hs (HW10.out.chg0 d9) hGl
  go_wp2_with fail
  go_at_call 9
  refine hsc.mono ?_
  rintro e w16 ⟨rfl, d10⟩
  replace d10 := d9.nil_trans d10
  have haw := awake_calls w16 (HK.out.chg0 (c010.nil_trans d10))
  go_wp2_with fail
  go_at_call 13
  refine haw.mono ?_
  rintro e w17 ⟨rfl, d11⟩
  replace d11 := d10.nil_trans d11
  go_wp2
  go_ret
  exact ⟨rfl, c010.nil_trans d11⟩
theorem grows_row (w : World) (wd : Int) (hwd : -9223372036854775808 ≤ wd ∧ wd < 9223372036854775808) (lv : Value) (ls : List (Array Value)) (hc : HsC w lv ls) (hk : HIs w) :
    Calls Tryd.prog 3 #[.int .i64 wd, lv] w (Res w [] (.bool true)) := by
  by_cases hlen : ls.length ≤ 200
  · exact grows_main w wd hwd lv ls hc hlen hk
  · obtain ⟨w0, rfl⟩ : ∃ w0 : World, w0 = w := ⟨_, rfl⟩
    obtain ⟨⟨hI, a, cap, rfl, hr⟩, hcap⟩ := hc
    clear hI hr hcap
    generalize ls.length = n at *
    have hb : decide ((200 : Int) < (n : Int)) = true := by simp; omega
    go_enter Tryd.func3, Tryd.ntmps3
    go_wp2
    go_ret
    exact ⟨rfl, Chg.refl _ _⟩
end Go.Proofs.YtnodjlgihhinpaaDoor

/- The statement MmrGrows is proved (a card tied to the program's text): for every input the law returns true and every argument reads as before. No condition but the tied one: the hash's two tables start as the program's text lays them. -/
namespace Go.Proofs.YtnodjlgihhinpaaDoor
open Go.ChangeShapes Go.WideShapes Go.ChangeAt Go.RowKit
set_option linter.unusedVariables false
namespace MmrGrowsRow
theorem own : ownKnob Tryd.prog.godebug = none := by kernel_rfl
theorem laidOut : laidOutB Tryd.prog = true := by kernel_rfl

set_option maxRecDepth 100000 in
theorem lifted (os : Os) (started : os.Started) (H : Type) (enc : TypeId × Value → H) :
    ReturnsInHanded {} Tryd.checked os 3 .any (fun w args => (Rows.mmrGrowsSpec.pre enc Tryd.prog Tryd.f3 [] false w args ∧ laidMetH Tryd.prog laidL w) ∧ sizedMet enc Tryd.prog Tryd.f3 (OpenSpec.ofChange Rows.mmrGrowsSpec) false w args) (Rows.mmrGrowsSpec.post enc Tryd.prog Tryd.f3 false true false false) := by
  refine returnsInHanded_of_change_and (C := Tryd.checked) (X := fun w _ => laidMetH Tryd.prog laidL w) (fun _ _ _ hh h => h.of_heap hh) own started (by kernel_rfl) Tryd.func3
    (ChangeSpec.witness_shaped (enc := enc) (C := Tryd.checked) (os := os) (X := fun w _ => laidMetH Tryd.prog laidL w) false (World.doorLaid Tryd.prog 19 os) #[.int .i64 0, .slice none 0 0] 8 rfl (World.shaped_of_RefB (by kernel_rfl) (by kernel_rfl)) (by kernel_rfl) (by kernel_rfl) (by kernel_rfl) (door_met os _)) ?_
  intro W base args ds gs before hval0 hW _ hcnd hL _
  have hval : ∀ (j : Nat) t v, Tryd.f3.params[j]? = some t → args[j]? = some v → Value.okWide Tryd.prog W .any base t v := hval0
  have hW' := hW
  obtain ⟨p, q, hA0, hV, rfl, hfz, hnd⟩ := hW
  have hA : DataW.TrodAll enc Tryd.prog W 0 (fun _ => true) true Tryd.f3.params.toList args.toList ds p := hA0
  rw [Tryd.params3] at hA hval hcnd
  have hH := his_of_laid hL
  obtain ⟨v0, vs0, d0, ds0, p0, q0, hargs, rfl, rfl, h0, r0⟩ := trodAll_cons hA
  obtain ⟨v1, vs1, d1, ds1, p1, q1, rfl, rfl, rfl, h1, r1⟩ := trodAll_cons r0
  obtain ⟨rfl, rfl, rfl⟩ := trodAll_nil r1
  obtain rfl : args = #[v0, v1] := by cases args; simp_all
  obtain ⟨rfl, rfl⟩ := trodVars_none hV
  obtain ⟨a0, rfl, rfl, rfl, w0⟩ := open_int Tryd.underlying3 (hval 0 3 v0 rfl rfl) h0
  obtain ⟨a1, len1, cap1, rfl⟩ := okWide_slice Tryd.underlying22 (hval 1 22 v1 rfl rfl)
  have k1 := h1
  have lt1 : ∀ x ∈ p1, x.block < W.heap.size := by obtain ⟨m, hm⟩ := k1; exact DataW.trod_lt m _ _ _ hm
  obtain ⟨xs1, w1⟩ : ∃ xs, HsC W (.slice a1 len1 cap1) xs := by
    obtain ⟨fuel, hf⟩ := h1
    exact open_hashesC hf
  clear hA0 hval0
  refine (grows_row W a0 (wfb_i64 w0) _ xs1 w1 hH).mono fun e W' ⟨he, hch⟩ => ?_
  have bel := hch.below
  subst he
  exact ⟨_, rfl, _, _, _, [], _, [], hW', trodAll_mk1 (shut_bool Tryd.underlying4 _), (trodAll_cons_mk (shut_int Tryd.underlying3 w0) (trodAll_cons_mk (Below.trod laidOut (by kernel_rfl) (of_decide_eq_true (by kernel_rfl)) k1 bel lt1) trodAll_mk0)), rfl, bel.frame _, fun h => by cases h⟩

theorem over : Rows.MmrGrowsSaid :=
  OpenClaim.holds_of_wide_leaving 3 Tryd.f3 rfl rfl rfl rfl rfl rfl rfl ⟨rfl, rfl, rfl, rfl, rfl⟩ rfl rfl rfl rfl rfl (by kernel_rfl) Tryd.func3 (by kernel_rfl)
    (of_decide_eq_true (by kernel_rfl)) (by unfold Func.isWrapper; first | (rw [if_pos (by decide +kernel)]; kernel_rfl) | (rw [if_neg (by decide +kernel)]; exact ⟨rfl, rfl⟩))
    (fun os started H enc _ => leaving_of_handed (lifted os started H enc))
end MmrGrowsRow

theorem MmrGrows : Rows.MmrGrowsCardSaid :=
  holds_tied_goes_at .later [] [.data, .data] true Rows.mmrGrowsCard.stood.harness false
    MmrGrowsRow.over (fun _ h => by cases h) (by kernel_rfl) (fun _ h => by cases h) mmrGrows_row_tie rfl ⟨rfl, rfl⟩ (by kernel_rfl) rfl
    (fun f fn hf hfn => by
      obtain rfl : f = 3 := Option.some.inj ((show Tryd.prog.funcNamed "massif/massiflaw6.MmrGrows" = some 3 by kernel_rfl).symm.trans hf) |>.symm
      obtain rfl : fn = Tryd.f3 := (Option.some.inj (Tryd.func3.symm.trans hfn)).symm
      exact ⟨by kernel_rfl, fun j t ht => by
        rw [Tryd.params3] at ht
        have hm : t ∈ [3, 22] := by simpa using Array.mem_of_getElem? ht
        have hall : ([3, 22].all fun u => !Tryd.prog.wantsStandIn u) = true := by kernel_rfl
        exact (show Tryd.prog.wantsStandIn t = false by simpa using List.all_eq_true.1 hall t hm)⟩)
    (by kernel_rfl)
#print axioms MmrGrows
end Go.Proofs.YtnodjlgihhinpaaDoor

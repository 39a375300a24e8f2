/- 'tells' of the finds' statements walked. -/
import Derived.Test.YtonppfebmeehcaaFdV
namespace Go.Proofs.Ytonppfebmeehcaa
open Go.RowKit
set_option linter.unusedVariables false
set_option linter.unusedSimpArgs false

theorem repH_rows {w : World} {B : Nat} {v : Value} {n : Nat} {x : Array Value} (h : HOwn w B v (List.replicate n x)) : ∃ a cap, v = .slice a n cap ∧ ∀ i, i < n → ∃ g, a = some ⟨g, 0, none⟩ ∧ g < w.heap.size ∧ rng? w g (i * 32) 32 = some x := by
  obtain ⟨a, cap, rfl, hr⟩ := h.rows
  refine ⟨a, cap, by simp, fun i hi => ?_⟩
  rcases hr with hr | ⟨g, rfl, hg, _, hr⟩
  · have := congrArg List.length hr; simp at this; omega
  · refine ⟨g, rfl, hg, ?_⟩
    have := hr i (by simpa using hi)
    rwa [List.getElem_replicate] at this
set_option maxRecDepth 100000 in
set_option maxHeartbeats 8000000 in
theorem tells_calls {F0 : List Nat} {w0 : World} (w : World) (b rb : Nat) (ls : List HK) (h : PF F0 w0 w b rb ls ls) (hlen : ls.length ≤ 100000) :
    Calls Try.prog 17 #[.pointer (some ⟨b, 0, none⟩), .pointer (some ⟨rb, 0, none⟩)] w (Res w [] (.bool true)) := by
  obtain ⟨wb, rfl⟩ : ∃ wb : World, wb = w := ⟨_, rfl⟩
  have hfd := fun W (hW : Chg [] wb W) => (h.chg0 hW).fd
  have hrf := fun W (hW : Chg [] wb W) => (h.chg0 hW).rf
  have hT1 : ∀ W, Chg [] wb W → Calls Try.prog 42 #[.pointer (some ⟨b, 0, none⟩)] W (TwL W ls) := fun W hW => by obtain ⟨F1, q⟩ := hfd W hW; exact q.twice hlen
  have hU1 : ∀ W, Chg [] wb W → Calls Try.prog 21 #[.pointer (some ⟨b, 0, none⟩)] W (fun e w' => e = .returned (.int .i64 (kinds ls ls.length : Nat)) ∧ w' = W) := fun W hW => by obtain ⟨F1, q⟩ := hfd W hW; exact q.unlike
  have hS1 : ∀ W, Chg [] wb W → Calls Try.prog 22 #[.pointer (some ⟨b, 0, none⟩)] W (fun e w' => e = .returned (.int .u64 (ls.length : Nat)) ∧ w' = W) := fun W hW => by obtain ⟨F1, q⟩ := hfd W hW; exact q.size hlen
  have hT2 : ∀ W, Chg [] wb W → Calls Try.prog 41 #[.pointer (some ⟨rb, 0, none⟩)] W (TwL W ls) := fun W hW => by obtain ⟨rv, q⟩ := hrf W hW; exact rTwice_calls W rb rv ls q hlen
  have hU2 : ∀ W, Chg [] wb W → Calls Try.prog 44 #[.pointer (some ⟨rb, 0, none⟩)] W (Res W [] (.int .i64 (kinds ls ls.length : Nat))) := fun W hW => by obtain ⟨rv, q⟩ := hrf W hW; exact rUnlike_calls W rb rv ls q hlen
  have hrl : ∀ W, Chg [] wb W → ∃ a cap, W.cell? ⟨rb, 0, none⟩ = some (.slice a ls.length cap) ∧ rb < W.heap.size := fun W hW => by
    obtain ⟨rv, q⟩ := hrf W hW
    obtain ⟨a, cap, rfl, _⟩ := q.row.rowI
    exact ⟨a, cap, blk_cell q.mem 0 rfl, blk_lt q.mem⟩
  have h201 := hash1_is (n := 201) (by omega) (by omega)
  have h202 := hash1_is (n := 202) (by omega) (by omega)
  have hb1 := bd_Hash1 201
  have hb2 := bd_Hash1 202
  have sx := h201.1
  have sy := h202.1
  have ox := h201.one
  have oy := h202.one
  have e1 : eqH (hash1 201) (hash1 201) = true := eqH_self
  have e2 : eqH (hash1 202) (hash1 202) = true := eqH_self
  generalize hash1 201 = x at *
  generalize hash1 202 = y at *
  have hTL : (twiceL ls).length ≤ ls.length := twTo_len ls ls.length
  obtain ⟨T, hT⟩ : ∃ T, (twiceL ls).map (·.1) = T := ⟨_, rfl⟩
  have hTl : T.length ≤ 100000 := by rw [← hT, List.length_map]; omega
  unfold TwL at hT1 hT2
  simp only [hT] at hT1 hT2
  obtain ⟨K, hK⟩ : ∃ K, kinds ls ls.length = K := ⟨_, rfl⟩
  simp only [hK] at hU1 hU2
  obtain ⟨n, hn⟩ : ∃ n, T.length = n := ⟨_, rfl⟩
  have HN := Lib.hid hn
  have HT1 := Lib.hid hT1
  have HT2 := Lib.hid hT2
  have HU1 := Lib.hid hU1
  have HU2 := Lib.hid hU2
  have HS1 := Lib.hid hS1
  have HRL := Lib.hid hrl
  have hn1 : n ≤ 100000 := by omega
  clear hfd hrf hT1 hT2 hU1 hU2 hS1 hrl h hTL hT hTl hn hK
  go_enter Try.func17, Try.ntmps17
  go_wp2_with fail
  go_at_call 41
  refine (HT2.out _ (Chg.refl _ _)).mono ?_
  rintro e w1 ⟨vw, rfl, hOw, hc1⟩
  go_wp2_with fail
  go_at_call 42
  refine (HT1.out _ hc1).mono ?_
  rintro e w2 ⟨va, rfl, hOa, hc2⟩
  have hc02 := hc1.nil_trans hc2
  go_wp2_with fail
  go_at_call 42
  refine (HT1.out _ hc02).mono ?_
  rintro e w3 ⟨vb, rfl, hOb, hc3⟩
  have hc03 := hc02.nil_trans hc3
  have hOw3 := (hOw.chg hc2 (by simp)).chg hc3 (by simp)
  have hOa3 := hOa.chg hc3 (by simp)
  have hla := own_lt hOa.1
  have hlb := own_lt hOb.1
  have hlw := own_lt hOw.1
  have hse1 := fun W (hW : Chg [] w3 W) => sameH_calls W va vw T (hOa3.chg hW (by simp)).hs (hOw3.chg hW (by simp)).hs (by rw [HN.out]; omega)
  have hse2 := fun W (hW : Chg [] w3 W) => sameH_calls W vb vw T (hOb.chg hW (by simp)).hs (hOw3.chg hW (by simp)).hs (by rw [HN.out]; omega)
  have HSE1 := Lib.hid hse1
  have HSE2 := Lib.hid hse2
  clear hse1 hse2
  go_wp2_with fail
  go_at_call 43
  refine (HSE1.out _ (Chg.refl _ _)).mono ?_
  rintro e w4 ⟨rfl, hc4⟩
  go_wp2_with fail
  go_at_call 43
  refine (HSE2.out _ hc4).mono ?_
  rintro e w5 ⟨rfl, hc5⟩
  have hc35 := hc4.nil_trans hc5
  have hOa5 := hOa3.chg hc35 (by simp)
  have hOb5 := hOb.chg hc35 (by simp)
  have hOw5 := hOw3.chg hc35 (by simp)
  obtain ⟨a, capa, rfl, hra⟩ := hOa5.rows
  obtain ⟨bq, capb, rfl, hrb⟩ := hOb5.rows
  rw [HN.out]
  rw [HN.out] at hOa5 hOb5 hla hlb
  have hdis : ∀ z ∈ ob (.slice a n capa), z ∉ ob (.slice bq n capb) := fun z hz hz2 => by have := (hla z hz).2; have := (hlb z hz2).1; have := hc2.size; omega
  have hdw : ∀ z ∈ ob vw, z ∉ ob (.slice a n capa) ∧ z ∉ ob (.slice bq n capb) := fun z hz => ⟨fun q => by have := (hla z q).1; have := (hlw z hz).2; omega, fun q => by have := (hlb z q).1; have := (hlw z hz).2; have := hc2.size; omega⟩
  have hbig : ∀ z, (z ∈ ob (.slice a n capa) ∨ z ∈ ob (.slice bq n capb)) → wb.heap.size ≤ z := fun z hz => by
    rcases hz with q | q
    · have := (hla z q).1; have := hc1.size; omega
    · have := (hlb z q).1; have := hc02.size; omega
  have hc05 := hc03.nil_trans hc35
  have HRA := Lib.hid hra
  have HRB := Lib.hid hrb
  have HD := Lib.hid hdis
  have HDW := Lib.hid hdw
  have HBG := Lib.hid hbig
  clear hra hrb hdis hdw hbig hc4 hc5 hc35 hOa hOb hOw hOw3 hOa3 HSE1 HSE2 hla hlb hlw hc1 hc2 hc3 hc02 hc03
  go_wp2_with fail
  go_loopg [8] n (fun g ii wx => ∃ k, k ≤ n ∧ g = n - k ∧ ii = .int .i64 k ∧ HOwn wx w1.heap.size (.slice a n capa) (overH x k T) ∧ HOwn wx w2.heap.size (.slice bq n capb) (overH y k T) ∧ HOwn wx wb.heap.size vw T ∧ Chg [] wb wx)
  case atStart => exact ⟨0, by omega, by omega, rfl, by rw [overH_zero]; exact hOa5, by rw [overH_zero]; exact hOb5, hOw5, hc05⟩
  case round =>
    clear hOa5 hOb5 hOw5 hc05
    obtain ⟨k, hkl, hg, rfl, hU1, hU2, hW, hC⟩ := hrel
    by_cases hlt : k < n
    · have hkl2 : k < T.length := by rw [HN.out]; exact hlt
      rcases HRA.out with hr | ⟨pb, rfl, hpb, _, _⟩
      · rw [hr] at hkl2; simp at hkl2
      rcases HRB.out with hr | ⟨qb, rfl, hqb, _, _⟩
      · rw [hr] at hkl2; simp at hkl2
      have hpq : pb ≠ qb := fun e => HD.out pb (by simp [ob_some]) (by simp [ob_some, e])
      obtain ⟨hn1', hm1, hl1⟩ := hU1.overH h201 hkl2
      have hcA : Chg [pb] wr (setRng wr pb (k * 32) x) := setRng_chg _ _ _ _
      have hU2' := hU2.chg hcA (by simp [ob_some]; exact fun e => hpq e.symm)
      obtain ⟨hn2', hm2, hl2⟩ := hU2'.overH h202 hkl2
      have hcB : Chg [qb] (setRng wr pb (k * 32) x) (setRng (setRng wr pb (k * 32) x) qb (k * 32) y) := setRng_chg _ _ _ _
      have hn1'' := hn1'.chg hcB (by simp [ob_some]; exact hpq)
      have hW2 := (hW.chg hcA (fun z hz hz2 => by simp at hz2; subst hz2; exact (HDW.out _ hz).1 (by simp [ob_some]))).chg hcB (fun z hz hz2 => by simp at hz2; subst hz2; exact (HDW.out _ hz).2 (by simp [ob_some]))
      have hCf := (hC.trans hcA (fun z hz => .inr (by simp at hz; subst hz; exact HBG.out _ (.inl (by simp [ob_some]))))).trans hcB (fun z hz => .inr (by simp at hz; subst hz; exact HBG.out _ (.inr (by simp [ob_some]))))
      have hm2' : may wr qb (k * 32) 32 = true := by
        have := (hU2.overH h202 hkl2).2.1
        exact this
      have hl2' : qb < wr.heap.size := (hU2.overH h202 hkl2).2.2
      have HN1 := Lib.hid hn1''
      have HN2 := Lib.hid hn2'
      have HW2 := Lib.hid hW2
      have HCF := Lib.hid hCf
      have HG := Lib.hid hg
      have k0 : (0 : Int) ≤ (k : Int) := by omega
      have k1 : (k : Int) < (n : Int) := by omega
      have hqp : ¬ qb = pb := fun e => hpq e.symm
      clear hn1' hn1'' hn2' hW2 hCf hcB hcA hU2' hU1 hU2 hW hC hg
      go_wp2
      go_roundg (n - (k + 1))
      case measure => rw [HG.out]; omega
      case rel => exact ⟨k + 1, by omega, rfl, by go_num, HN1.out, HN2.out, HW2.out, HCF.out⟩
    · obtain rfl : k = n := by omega
      rw [show overH x k T = List.replicate k x from by rw [← HN.out, overH_all]] at hU1
      rw [show overH y k T = List.replicate k y from by rw [← HN.out, overH_all]] at hU2
      have hl1 := own_lt hU1.1
      have hl2 := own_lt hU2.1
      obtain ⟨v1, w3', hr1, hO1, hc3, hb3⟩ := HOwn.push (w := wr) (B := 0) ⟨own_mono hU1.1 (Nat.zero_le _), hU1.2⟩ x h201 (by simp; omega) (Nat.zero_le _) 26
      have hA2' : HOwn w3' 0 (.slice bq k capb) (List.replicate k y) := ⟨own_mono (hU2.chg hc3 (fun z hz hz2 => HD.out z hz2 hz)).1 (Nat.zero_le _), hU2.2⟩
      obtain ⟨v2, w4', hr2, hO2, hc4, hb4⟩ := HOwn.push (w := w3') (B := 0) hA2' y h202 (by simp; omega) (Nat.zero_le _) 26
      have hO1' := hO1.chg hc4 (fun z hz hz2 => by
        rcases hb3 z hz with q | q
        · exact HD.out z q hz2
        · have := (hl2 z hz2).2; omega)
      have hW4 := (hW.chg hc3 (fun z hz hz2 => (HDW.out z hz).1 hz2)).chg hc4 (fun z hz hz2 => (HDW.out z hz).2 hz2)
      have hR1 : HOwn w4' 0 v1 (List.replicate (k + 1) x) := by rw [List.replicate_succ']; exact hO1'
      have hR2 : HOwn w4' 0 v2 (List.replicate (k + 1) y) := by rw [List.replicate_succ']; exact hO2
      obtain ⟨a1, cap1, rfl, hcl1⟩ := repH_rows hR1
      obtain ⟨a2, cap2, rfl, hcl2⟩ := repH_rows hR2
      have hCf : Chg [] wb w4' := (hC.trans hc3 (fun z hz => .inr (HBG.out z (.inl hz)))).trans hc4 (fun z hz => .inr (HBG.out z (.inr hz)))
      have HCL1 := Lib.hid hcl1
      have HCL2 := Lib.hid hcl2
      have HCF := Lib.hid hCf
      have HW4 := Lib.hid hW4
      clear hO1 hO2 hO1' hR1 hR2 hb3 hb4 hA2' hl1 hl2 hU1 hU2 hC hcl1 hcl2 hCf hc3 hc4 hg hkl hW hW4
      go_wp2_with (first
        | (at_builtin; refine Lib.wpList_append_run _ rfl _ _ _ _ rfl _ _ rfl rfl _ _ hr1 ?_)
        | (at_builtin; refine Lib.wpList_append_run _ rfl _ _ _ _ rfl _ _ rfl rfl _ _ hr2 ?_))
      clear hr1 hr2
      go_loopg [9] (k + 1) (fun g ii wx => ∃ i, i ≤ k + 1 ∧ g = k + 1 - i ∧ ii = .int .i64 i ∧ wx = w4')
      case atStart => exact ⟨0, by omega, by omega, rfl, rfl⟩
      case round =>
        obtain ⟨i, hi, hg, rfl, rfl⟩ := hrel
        by_cases hlt2 : i < k + 1
        · obtain ⟨g1, rfl, hg1, c1⟩ := HCL1.out i hlt2
          obtain ⟨g2, rfl, hg2, c2⟩ := HCL2.out i hlt2
          have i0 : (0 : Int) ≤ (i : Int) := by omega
          have i1 : (i : Int) < (k : Int) + 1 := by omega
          have HG := Lib.hid hg
          clear hg
          go_wp2
          go_roundg (k + 1 - (i + 1))
          case measure => rw [HG.out]; omega
          case rel => exact ⟨i + 1, by omega, rfl, by go_num, rfl⟩
        · obtain rfl : i = k + 1 := by omega
          have hcf := HCF.out
          have hcd : Chg [] wr wr.drew := (Chg.refl _ _).drew
          obtain ⟨ra, rcap, rcell, rbl⟩ := HRL.out wr hcf
          have kk : ((K : Int) == (K : Int)) = true := by simp
          have kl : ((ls.length : Int) == (ls.length : Int)) = true := by simp
          have hl0 : (0 : Int) ≤ (ls.length : Int) := by omega
          have qw : IntKind.u64.wrap (ls.length : Int) = (ls.length : Int) := by rw [IntKind.wrap_u64]; omega
          clear hg
          go_upto_region 15 with (fail)
          have hS : ∀ W, Chg [] wr W → W.cell? ⟨rb, 0, none⟩ = some (.slice ra ls.length rcap) := fun W hW => by rw [hW.cell (p := ⟨rb, 0, none⟩) rbl (by simp)]; exact rcell
          go_region_held3 (fun W => W.cell? ⟨rb, 0, none⟩ = some (.slice ra ls.length rcap)) (first | exact hS _ (by assumption) | exact hS _ (Chg.refl _ _).drew | exact hS _ (Chg.refl _ _)) (first
            | (go_at_call 22; (with_reducible refine (HS1.out _ (by first | assumption | exact hcf.drew | exact hcf.nil_trans (by assumption))).mono ?_); rintro e wj ⟨rfl, hwj⟩; subst hwj)
            | (go_at_call 21; (with_reducible refine (HU1.out _ (by first | assumption | exact hcf.drew | exact hcf.nil_trans (by assumption))).mono ?_); rintro e wj ⟨rfl, hwj⟩; subst hwj)
            | (go_at_call 44; (with_reducible refine (HU2.out _ (by first | assumption | exact hcf.drew | exact hcf.nil_trans (by assumption))).mono ?_); rintro e wj ⟨rfl, hcj⟩; have hCj : Chg [] wr wj := hcd.nil_trans hcj; have hCk : Chg [] wb wj := hcf.nil_trans hCj)
            | (go_at_call 42; (with_reducible refine (HT1.out _ (by assumption)).mono ?_); rintro e wq ⟨vq, rfl, hOq, hcq⟩; have hCq : Chg [] wr wq := Chg.nil_trans (by assumption) hcq)
            | (go_at_call 43; (with_reducible refine (sameH_calls _ _ _ T (HOwn.hs (by assumption)) (HW4.out.chg (by assumption) (by simp)).hs (by have := HN.out; omega)).mono ?_); rintro e wz ⟨rfl, hcz⟩; have hCz : Chg [] wr wz := Chg.nil_trans (by assumption) hcz))
          all_goals
            go_wp2
            go_ret
            exact ⟨rfl, hcf.nil_trans (by assumption)⟩
end Go.Proofs.Ytonppfebmeehcaa

/- 'same' of the finds' statements walked. -/
import Derived.Test.YtonppfebmeehcaaFdT
namespace Go.Proofs.Ytonppfebmeehcaa
open Go.RowKit
set_option linter.unusedVariables false
set_option linter.unusedSimpArgs false

theorem rep_cells {w : World} {B : Nat} {v : Value} {n x : Nat} (h : UOwn w B v (List.replicate n x)) : ∃ a cap, v = .slice a n cap ∧ ∀ i, i < n → ∃ g, a = some ⟨g, 0, none⟩ ∧ g < w.heap.size ∧ w.cell? ⟨g, i, none⟩ = some (.int .u64 (x : Nat)) := by
  obtain ⟨a, cap, rfl, hr⟩ := h.nis
  refine ⟨a, cap, by simp, fun i hi => ?_⟩
  rcases hr with hr | ⟨g, rfl, hg, _, hr⟩
  · have := congrArg List.length hr; simp at this; omega
  · refine ⟨g, rfl, hg, ?_⟩
    have := hr i (by simpa using hi)
    rwa [List.getElem_replicate] at this
set_option maxRecDepth 100000 in
set_option maxHeartbeats 4000000 in
theorem sameL_calls (w : World) (B1 B2 B3 : Nat) (va vb vc : Value) (l : List Nat) (ha : UOwn w B1 va l) (hb : UOwn w B2 vb l) (hc : UOwn w B3 vc l) (hd : ∀ x ∈ ob va, x ∉ ob vb) (hlen : l.length ≤ 100000) :
    Calls Try.prog 12 #[va, vb, vc] w (Res w (ob va ++ ob vb) (.bool true)) := by
  obtain ⟨w0, rfl⟩ : ∃ w0 : World, w0 = w := ⟨_, rfl⟩
  have hs1 := fun W (hW : Chg [] w0 W) => sameN_calls W B1 B3 va vc l (own_chg ha hW (by simp)) (own_chg hc hW (by simp)) (by omega)
  have hs2 := fun W (hW : Chg [] w0 W) => sameN_calls W B2 B3 vb vc l (own_chg hb hW (by simp)) (own_chg hc hW (by simp)) (by omega)
  obtain ⟨a, capa, rfl, hra⟩ := ha.nis
  obtain ⟨b, capb, rfl, hrb⟩ := hb.nis
  have HA := Lib.hid ha
  have HB := Lib.hid hb
  have HRA := Lib.hid hra
  have HRB := Lib.hid hrb
  have HS1 := Lib.hid hs1
  have HS2 := Lib.hid hs2
  have HD := Lib.hid hd
  obtain ⟨n, hn⟩ : ∃ n, l.length = n := ⟨_, rfl⟩
  have HN := Lib.hid hn
  rw [hn] at hlen
  rw [hn] at HA HB HD
  clear ha hb hc hra hrb hs1 hs2 hd
  rw [hn]
  rw [hn] at HS1 HS2
  clear hn
  go_enter Try.func12, Try.ntmps12
  go_wp2_with fail
  go_at_call 39
  refine (HS1.out _ (Chg.refl _ _)).mono ?_
  rintro e w1 ⟨rfl, hc1⟩
  go_wp2_with fail
  go_at_call 39
  refine (HS2.out _ hc1).mono ?_
  rintro e w2 ⟨rfl, hc2⟩
  have hc02 : Chg [] w0 w2 := hc1.nil_trans hc2
  go_wp2_with fail
  go_loopg [7] n (fun g ii wx => ∃ k, k ≤ n ∧ g = n - k ∧ ii = .int .i64 k ∧ UOwn wx B1 (.slice a n capa) (over 201 k l) ∧ UOwn wx B2 (.slice b n capb) (over 202 k l) ∧ Chg (ob (.slice a n capa) ++ ob (.slice b n capb)) w0 wx)
  case atStart => exact ⟨0, by omega, by omega, rfl, by rw [over_zero]; exact own_chg HA.out hc02 (by simp), by rw [over_zero]; exact own_chg HB.out hc02 (by simp), hc02.of_nil⟩
  case round =>
    obtain ⟨k, hkl, hg, rfl, hU1, hU2, hC⟩ := hrel
    by_cases hlt : k < n
    · have hkl2 : k < l.length := by rw [HN.out]; exact hlt
      rcases HRA.out with hr | ⟨pb, rfl, hpb, _, _⟩
      · rw [hr] at hkl2; simp at hkl2
      rcases HRB.out with hr | ⟨qb, rfl, hqb, _, _⟩
      · rw [hr] at hkl2; simp at hkl2
      have hpq : pb ≠ qb := fun e => HD.out pb (by simp [ob_some]) (by simp [ob_some, e])
      have hw1 := hU1
      unfold UOwn at hw1
      rw [over_len 201 k l (by omega), HN.out] at hw1
      obtain ⟨v1, _, c1, f1, l1⟩ := own_cellx hw1 hlt
      have hw2 := hU2
      unfold UOwn at hw2
      rw [over_len 202 k l (by omega), HN.out] at hw2
      obtain ⟨v2, _, c2, f2, l2⟩ := own_cellx hw2 hlt
      have hnext1 := (hU1.over HN.out.symm hkl2)
      have hcA : Chg [pb] wr (wr.setCell ⟨pb, k, none⟩ (.int .u64 ((201 : Nat) : Int))) := (Chg.refl _ _).setCell (by simp) _
      have hU2' := own_chg hU2 hcA (by simp [ob_some]; exact fun e => hpq e.symm)
      have hnext2 := UOwn.over hU2' HN.out.symm hkl2
      have hcB : Chg [qb] (wr.setCell ⟨pb, k, none⟩ (.int .u64 ((201 : Nat) : Int))) ((wr.setCell ⟨pb, k, none⟩ (.int .u64 ((201 : Nat) : Int))).setCell ⟨qb, k, none⟩ (.int .u64 ((202 : Nat) : Int))) := (Chg.refl _ _).setCell (by simp) _
      have hn1 := own_chg hnext1 hcB (by simp [ob_some]; exact hpq)
      have hCf := (hC.trans hcA (fun x hx => .inl (by simp at hx; subst hx; simp [ob_some]))).trans hcB (fun x hx => .inl (by simp at hx; subst hx; simp [ob_some]))
      have HN1 := Lib.hid hn1
      have HN2 := Lib.hid hnext2
      have HCF := Lib.hid hCf
      have HG := Lib.hid hg
      have k0 : (0 : Int) ≤ (k : Int) := by omega
      have k1 : (k : Int) < (n : Int) := by omega
      have hqp : ¬ qb = pb := fun e => hpq e.symm
      clear hn1 hnext2 hCf hcB hU2' hcA hnext1 hw1 hw2 hU1 hU2 hC hg
      go_wp2
      go_roundg (n - (k + 1))
      case measure => rw [HG.out]; omega
      case rel => exact ⟨k + 1, by omega, rfl, by go_num, HN1.out, HN2.out, HCF.out⟩
    · obtain rfl : k = n := by omega
      rw [show over 201 k l = List.replicate k 201 from by rw [← HN.out, over_all]] at hU1
      rw [show over 202 k l = List.replicate k 202 from by rw [← HN.out, over_all]] at hU2
      have hl1 := own_lt hU1
      have hl2 := own_lt hU2
      have hA1 := own_mono hU1 (Nat.zero_le _)
      have hA2 := own_mono hU2 (Nat.zero_le _)
      obtain ⟨v1, w3, hr1, hO1, hc3, hb3⟩ := UOwn.push (w := wr) (B := 0) hA1 201 (by simp; omega) (Nat.zero_le _) 36
      have hA2' := own_chg hA2 hc3 (fun x hx hx2 => HD.out x hx2 hx)
      obtain ⟨v2, w4, hr2, hO2, hc4, hb4⟩ := UOwn.push (w := w3) (B := 0) hA2' 202 (by simp; omega) (Nat.zero_le _) 36
      have hO1' := own_chg hO1 hc4 (fun x hx hx2 => by
        rcases hb3 x hx with q | q
        · exact HD.out x q hx2
        · have := (hl2 x hx2).2; omega)
      rw [← List.replicate_succ'] at hO1' hO2
      have hR1 : UOwn w4 0 v1 (List.replicate (k + 1) 201) := by rw [List.replicate_succ']; rw [List.replicate_succ'] at hO1'; exact hO1'
      obtain ⟨a1, cap1, rfl, hcl1⟩ := rep_cells hR1
      obtain ⟨a2, cap2, rfl, hcl2⟩ := rep_cells hO2
      have hr1' : (Builtin.append_ #[36, 36] 36 #[.slice a k capa, .slice (some ⟨wr.heap.size, 0, none⟩) 1 1]).run Try.prog (wr.alloc (.cells #[.int .u64 201] 31)) = .ok (.slice a1 (k + 1) cap1) w3 := hr1
      have hr2' : (Builtin.append_ #[36, 36] 36 #[.slice b k capb, .slice (some ⟨w3.heap.size, 0, none⟩) 1 1]).run Try.prog (w3.alloc (.cells #[.int .u64 202] 31)) = .ok (.slice a2 (k + 1) cap2) w4 := hr2
      have hCf : Chg (ob (.slice a k capa) ++ ob (.slice b k capb)) w0 w4 := (hC.trans hc3 (fun x hx => .inl (List.mem_append.2 (.inl hx)))).trans hc4 (fun x hx => .inl (List.mem_append.2 (.inr hx)))
      have HCL1 := Lib.hid hcl1
      have HCL2 := Lib.hid hcl2
      have HCF := Lib.hid hCf
      clear hr1 hr2 hO1 hO2 hO1' hR1 hb3 hb4 hA1 hA2 hA2' hl1 hl2 hU1 hU2 hC hcl1 hcl2 hCf hc3 hc4 hg hkl
      go_wp2_with (first
        | (at_builtin; refine Lib.wpList_append_run _ rfl _ _ _ _ rfl _ _ rfl rfl _ _ hr1' ?_)
        | (at_builtin; refine Lib.wpList_append_run _ rfl _ _ _ _ rfl _ _ rfl rfl _ _ hr2' ?_))
      clear hr1' hr2'
      go_loopg [8] (k + 1) (fun g ii wx => ∃ i, i ≤ k + 1 ∧ g = k + 1 - i ∧ ii = .int .i64 i ∧ wx = w4)
      case atStart => exact ⟨0, by omega, by omega, rfl, rfl⟩
      case round =>
        obtain ⟨i, hi, hg, rfl, rfl⟩ := hrel
        by_cases hlt2 : i < k + 1
        · obtain ⟨g1, rfl, hg1, c1⟩ := HCL1.out i hlt2
          obtain ⟨g2, rfl, hg2, c2⟩ := HCL2.out i hlt2
          have c1' : wr.cell? ⟨g1, i, none⟩ = some (.int .u64 201) := c1
          have c2' : wr.cell? ⟨g2, i, none⟩ = some (.int .u64 202) := c2
          have i0 : (0 : Int) ≤ (i : Int) := by omega
          have i1 : (i : Int) < (k : Int) + 1 := by omega
          have HG := Lib.hid hg
          clear c1 c2 hg
          go_wp2
          go_roundg (k + 1 - (i + 1))
          case measure => rw [HG.out]; omega
          case rel => exact ⟨i + 1, by omega, rfl, by go_num, rfl⟩
        · obtain rfl : i = k + 1 := by omega
          clear hg
          go_wp2
          go_ret
          exact ⟨rfl, HCF.out⟩
end Go.Proofs.Ytonppfebmeehcaa

/- 'awake' of the finds' statements walked. -/
import Derived.Test.YtonppfebmeehcaaFdJ
namespace Go.Proofs.Ytonppfebmeehcaa
open Go.RowKit
set_option linter.unusedVariables false
set_option linter.unusedSimpArgs false

theorem HOwn.rows {w : World} {B : Nat} {v : Value} {l : List (Array Value)} (h : HOwn w B v l) : ∃ a cap, v = .slice a l.length cap ∧ (l = [] ∨ ∃ g, a = some ⟨g, 0, none⟩ ∧ g < w.heap.size ∧ B ≤ g ∧ ∀ i (hi : i < l.length), rng? w g (i * 32) 32 = some l[i]) := by
  obtain ⟨hI, a, cap, rfl, hr⟩ := h.hs
  refine ⟨a, cap, rfl, ?_⟩
  rcases hr with q | ⟨g, o, rfl, hg, hr⟩
  · exact .inl q
  · have h1 := h.1.2
    rcases h1 with ⟨hv, h0⟩ | ⟨g', cap', cur, hv, hb, _⟩
    · cases hv
    · injection hv with e1
      injection e1 with e1
      injection e1 with e1 e2
      subst e1 e2
      exact .inr ⟨g, rfl, hg, hb, fun i hi => by have := hr i hi; rwa [Nat.zero_add] at this⟩
theorem idx3 {x y : HK} (h : x ≠ y) : idxOf x [x, y, x] = [0, 2] ∧ idxOf y [x, y, x] = [1] := by
  have h2 : y ≠ x := fun e => h e.symm
  constructor
  · simp [idxOf, List.range, List.range.loop, h2]
  · simp [idxOf, List.range, List.range.loop, h]
theorem twice3 {x y : HK} (h : x ≠ y) : twiceL [x, y, x] = [x] := by
  symm
  refine twice_unique (by simp) (fun k => ?_) (by simp)
  constructor
  · intro hk
    simp at hk
    subst hk
    rw [(idx3 h).1]
    simp
  · rintro ⟨h1, h2⟩
    by_cases e : k = x
    · simp [e]
    · have : k = y := by simpa [e] using h1
      subst this
      rw [(idx3 h).2] at h2
      simp at h2
theorem kinds3 {x y : HK} (h : x ≠ y) : kinds [x, y, x] 3 = 2 := by
  have e0 : frst [x, y, x] 0 = true := by simp [frst, fstN, (idx3 h).1]
  have e1 : frst [x, y, x] 1 = true := by simp [frst, fstN, (idx3 h).2]
  have e2 : frst [x, y, x] 2 = false := by simp [frst, fstN, (idx3 h).1]
  rw [kinds_succ, kinds_succ, kinds_succ, e0, e1, e2]
  rfl
set_option maxRecDepth 100000 in
set_option maxHeartbeats 4000000 in
theorem awakeF_calls (w : World) : Calls Try.prog 20 #[] w (Res w [] (.bool true)) := by
  have h1 := hash1_is (n := 1) (by omega) (by omega)
  have h2 := hash1_is (n := 2) (by omega) (by omega)
  have hb1 := bd_Hash1 1
  have hb2 := bd_Hash1 2
  have hne : hash1 1 ≠ hash1 2 := by
    intro e
    have := congrArg (fun a => a[0]?) e
    simp [hash1, zeroHash] at this
  generalize hash1 1 = x at *
  generalize hash1 2 = y at *
  have hk : (⟨x, h1⟩ : HK) ≠ ⟨y, h2⟩ := fun e => hne (congrArg (·.1) e)
  obtain ⟨kx, hkx⟩ : ∃ kx : HK, kx.1 = x := ⟨⟨x, h1⟩, rfl⟩
  obtain ⟨ky, hky⟩ : ∃ ky : HK, ky.1 = y := ⟨⟨y, h2⟩, rfl⟩
  have hk : kx ≠ ky := fun e => hne (by rw [← hkx, ← hky, e])
  subst hkx hky
  have sx := h1.1
  have sy := h2.1
  have ox := h1.one
  have oy := h2.one
  have ee : eqH kx.1 kx.1 = true := eqH_self
  obtain ⟨w0, rfl⟩ : ∃ w0 : World, w0 = w := ⟨_, rfl⟩
  go_enter Try.func20, Try.ntmps20
  go_wp2_with (go_at_call 9; refine (newL _).mono ?_; rintro e w1 ⟨b, rfl, hF⟩)
  have hA0 : Chg [] w1 ((w1.alloc (.cells zeroHash 30)).alloc (.cells zeroHash 30)) := ((Chg.refl _ _).alloc _).alloc _
  have hA : Chg [] w1 (setRng (setRng ((w1.alloc (.cells zeroHash 30)).alloc (.cells zeroHash 30)) w1.heap.size 0 kx.1) (w1.heap.size + 1) 0 ky.1) := (hA0.setRng (.inr (Nat.le_refl _)) _ _).setRng (.inr (by omega)) _ _
  obtain ⟨F1, hF1, hFo, hFl⟩ := hF.hereAt hA
  have hc : Chg [] w0 w1 := hF.out
  have b2 := ((Chg.refl [] (w1.alloc (.cells zeroHash 30))).alloc (.cells zeroHash 30)).at (blk_new w1 (.cells zeroHash 30)) (by simp)
  have b3 := blk_new (w1.alloc (.cells zeroHash 30)) (.cells zeroHash 30)
  rw [World.size_alloc] at b3
  have m2 := may_row (o := 0) (n := 32) b2 (by rw [zeroHash_size]; omega)
  have m3 := may_row (o := 0) (n := 32) b3 (by rw [zeroHash_size]; omega)
  have r2 := (rng?_setRng_other (setRng ((w1.alloc (.cells zeroHash 30)).alloc (.cells zeroHash 30)) w1.heap.size 0 kx.1) (w1.heap.size + 1) 0 ky.1 w1.heap.size 0 32 (by omega)).trans (rng?_setRng_same _ _ _ _ _ m2 sx)
  have r3 := rng?_setRng_same _ _ _ _ _ (may_setRng _ _ _ _ w1.heap.size 0 kx.1 m3) sy
  have hz : (setRng (setRng ((w1.alloc (.cells zeroHash 30)).alloc (.cells zeroHash 30)) w1.heap.size 0 kx.1) (w1.heap.size + 1) 0 ky.1).heap.size = w1.heap.size + 2 := by simp
  have hn2 : w1.heap.size ∉ F1 := fun h => by have := hFl _ h; omega
  have hn3 : w1.heap.size + 1 ∉ F1 := fun h => by have := hFl _ h; omega
  have hcW := hc.nil_trans hA
  have hF1o : ∀ x ∈ F1, w0.heap.size ≤ x := fun x hx => by rcases hFo x hx with q | q; simp at q; exact q
  obtain ⟨W1, hW1⟩ : ∃ W1, (setRng (setRng ((w1.alloc (.cells zeroHash 30)).alloc (.cells zeroHash 30)) w1.heap.size 0 kx.1) (w1.heap.size + 1) 0 ky.1) = W1 := ⟨_, rfl⟩
  rw [hW1] at r2 r3 hz hF1 hcW
  have HW1 := Lib.hid hW1
  clear hW1 hF hA hFo hFl hc hA0 b2 b3 m2 m3
  have rr : ∀ W, Chg F1 W1 W → rng? W w1.heap.size 0 32 = some kx.1 ∧ rng? W (w1.heap.size + 1) 0 32 = some ky.1 ∧ w1.heap.size < W.heap.size ∧ w1.heap.size + 1 < W.heap.size := fun W h => ⟨rng?_chg h r2 (by omega) hn2, rng?_chg h r3 (by omega) hn3, by have := h.size; omega, by have := h.size; omega⟩
  have HRR := Lib.hid rr
  have HF1 := Lib.hid hF1
  clear rr hF1
  go_upto_region 5 with (fail)
  rw [HW1.out]
  go_wp2_with fail
  go_at_call 10
  refine (HF1.out.add (by simp) kx).mono ?_
  rintro e w2 ⟨rfl, h2⟩
  obtain ⟨p2, p3, p4, p5⟩ := HRR.out _ h2.out
  have H2 := Lib.hid h2
  clear h2 r2 r3
  go_wp2_with fail
  go_at_call 10
  refine (H2.out.add (by simp) ky).mono ?_
  rintro e w3 ⟨rfl, h3⟩
  obtain ⟨p2, p3, p4, p5⟩ := HRR.out _ h3.out
  have H3 := Lib.hid h3
  clear h3 H2
  go_wp2_with fail
  go_at_call 10
  refine (H3.out.add (by simp) kx).mono ?_
  rintro e w4 ⟨rfl, h4⟩
  obtain ⟨p2, p3, p4, p5⟩ := HRR.out _ h4.out
  have H4 := Lib.hid h4
  clear h4 H3
  go_wp2_with fail
  go_at_call 13
  refine (H4.out.at (by simp) kx).mono ?_
  rintro e w5 ⟨va, rfl, hU, hc5⟩
  have H5 := Lib.hid (H4.out.chg0 hc5)
  go_wp2_with fail
  go_at_call 42
  refine (H5.out.twice (by simp)).mono ?_
  rintro e w6 ⟨vt, rfl, hT, hc6⟩
  have H6 := Lib.hid (H5.out.chg0 hc6)
  have eix : idxOf kx ([] ++ [kx] ++ [ky] ++ [kx]) = [0, 2] := (idx3 hk).1
  have etw : twiceL ([] ++ [kx] ++ [ky] ++ [kx]) = [kx] := twice3 hk
  have eki : kinds ([] ++ [kx] ++ [ky] ++ [kx]) ([] ++ [kx] ++ [ky] ++ [kx]).length = 2 := kinds3 hk
  have hU6 : UOwn w6 w4.heap.size va [0, 2] := by rw [← eix]; exact own_chg hU hc6 (by simp)
  have hT6 : HOwn w6 w5.heap.size vt [kx.1] := by rw [etw] at hT; exact hT
  have hun := fun n => (H6.out.chg0 ((Chg.refl [] w6).drewN n)).unlike
  rw [eki] at hun
  have hsi := fun n => (H6.out.chg0 ((Chg.refl [] w6).drewN n)).size (by simp)
  obtain ⟨ua, ucap, rfl, hur⟩ := hU6.nis
  rcases hur with hur | ⟨gu, rfl, hgu, _, hur⟩
  · cases hur
  obtain ⟨ta, tcap, rfl, htr⟩ := hT6.rows
  rcases htr with htr | ⟨gt, rfl, hgt, _, htr⟩
  · cases htr
  have u0 := hur 0 (by simp)
  have u1 := hur 1 (by simp)
  have t0 := htr 0 (by simp)
  rw [Nat.zero_mul] at t0
  obtain ⟨p2, p3, p4, p5⟩ := HRR.out _ H6.out.out
  have hfin : Chg [] w0 w6 := hcW.trans H6.out.out (fun x hx => .inr (hF1o x hx))
  clear hur htr hU6 hT6 eix etw eki hU hT hc6 hc5 hcW hF1o hn2 hn3
  go_wp2_with fail
  go_quiet ((first | (go_at_call 21; exact Calls.quiet_of_same (hun _)) | (go_at_call 22; exact Calls.quiet_of_same (hsi _))))
  go_wp2
  go_ret
  exact ⟨rfl, hfin.drewN _⟩
end Go.Proofs.Ytonppfebmeehcaa

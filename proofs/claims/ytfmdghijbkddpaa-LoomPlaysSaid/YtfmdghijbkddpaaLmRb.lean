/- The document's loom: Moves. -/
import Derived.Test.YtfmdghijbkddpaaLmRa
namespace Go.Proofs.Ytfmdghijbkddpaa
open Go.RowKit
set_option linter.unusedVariables false
set_option linter.unusedSimpArgs false

/-- A list of moves in the making: what it is, that it is new. -/
structure OutN (w0 w : World) (v : Value) (ms : List Mv) : Prop where
  row : RowIs w 31 3 v ms.length (mCells ms)
  chg : Chg [] w0 w
  new : ∀ k, v.ownBlock = some k → w0.heap.size ≤ k
theorem OutN.nil (w : World) : OutN w w (.slice none 0 0) [] := ⟨RowIs.nil _ _ _, Chg.refl _ _, by simp [Value.ownBlock]⟩
theorem OutN.chg0 {w0 w w' : World} {v : Value} {ms : List Mv} (h : OutN w0 w v ms) (hc : Chg [] w w') : OutN w0 w' v ms := ⟨h.row.chg0 hc, h.chg.nil_trans hc, h.new⟩
theorem OutN.app {w0 w : World} {v : Value} {ms : List Mv} (h : OutN w0 w v ms) (hl : ms.length ≤ 100000) (m : Mv) :
    ∃ u w', (apX #[28, 28] 28 #[v, .slice (some ⟨w.heap.size, 0, none⟩) 1 1]).run Try.prog (w.alloc (.cells #[.int .i64 m.kind, .int .i64 m.who, .int .i64 m.job] 31)) = .ok u w' ∧
      OutN w0 w' u (ms ++ [m]) := by
  have hc1 : Chg [] w (w.alloc (.cells #[.int .i64 m.kind, .int .i64 m.who, .int .i64 m.job] 31)) := (Chg.refl _ _).alloc _
  have h2 := h.row.chg0 hc1
  have hg := blk_new w (.cells #[.int .i64 m.kind, .int .i64 m.who, .int .i64 m.job] 31)
  obtain ⟨i, hi, hz, hs, hb⟩ := infoOf i_Mv
  obtain ⟨v', w', q1, q2, q3, q4⟩ := h2.app (P := Try.prog) 28 28 i _ 24 u_Moves hi hz hs hb rfl (by omega) ⟨w.heap.size, 0, none⟩ 1 1 [.int .i64 m.kind, .int .i64 m.who, .int .i64 m.job] rfl
    (by
      intro j u hu
      rw [Addr.add_mid, Nat.zero_add, cell_of_row _ _ _ _ _ _ hg]
      simpa using hu)
    (by intro u hu; simp at hu; rcases hu with rfl | rfl | rfl <;> rfl) (by unfold maxLen; omega) (by omega)
  obtain ⟨a, cap, rfl, _⟩ := q2.slice
  have hsz := h.chg.size
  have hsa : (w.alloc (.cells #[.int .i64 m.kind, .int .i64 m.who, .int .i64 m.job] 31)).heap.size = w.heap.size + 1 := World.size_alloc _ _
  have hnew : ∀ k, v.ownBlock = some k → w0.heap.size ≤ k := h.new
  refine ⟨_, w', q1, ?_, (h.chg.nil_trans hc1).trans q3 (fun x hx => .inr (hnew x (by simpa using hx))), ?_⟩
  · rw [mCells_append, List.length_append]
    exact q2
  · intro k hk
    rcases q4 with e | e
    · rw [e] at hk
      exact hnew k hk
    · rw [e, hsa] at hk
      simp at hk
      omega

def LS.moreB (s : LS) : Bool := !s.shut && decide (s.next < s.jobs)
theorem eachOf_step (kind : Int) (is : Nat × Nat → Bool) (job : Nat × Nat → Int) (l : List (Nat × Nat)) (k : Nat) (hk : k < l.length) (ms : List Mv) :
    ms ++ eachOf kind is job (l.take (k + 1)) 0 = (ms ++ eachOf kind is job (l.take k) 0) ++ (if is l[k] then [⟨kind, k, job l[k]⟩] else []) := by
  rw [eachOf_take kind is job l k hk, List.append_assoc]


/-- The moves of those workers among the first k of whom something is so, if it is asked. -/
def eachTo (p : Bool) (kind : Int) (is : Nat × Nat → Bool) (job : Nat × Nat → Int) (l : List (Nat × Nat)) (k : Nat) : List Mv := if p = true then eachOf kind is job (l.take k) 0 else []
section
variable {p : Bool} {kind : Int} {is : Nat × Nat → Bool} {job : Nat × Nat → Int} {l : List (Nat × Nat)} {k : Nat}
theorem eachTo_zero : eachTo p kind is job l 0 = [] := by
  unfold eachTo
  split <;> rfl
theorem eachTo_off (h : p = false) : eachTo p kind is job l (k + 1) = eachTo p kind is job l k := by
  unfold eachTo
  rw [if_neg (by simp [h]), if_neg (by simp [h])]
theorem eachTo_skip (hk : k < l.length) (h : is l[k] = false) : eachTo p kind is job l (k + 1) = eachTo p kind is job l k := by
  unfold eachTo
  split
  · rw [eachOf_take kind is job l k hk, if_neg (by simp [h]), List.append_nil]
  · rfl
theorem eachTo_add (hk : k < l.length) (hp : p = true) (h : is l[k] = true) : eachTo p kind is job l (k + 1) = eachTo p kind is job l k ++ [⟨kind, k, job l[k]⟩] := by
  unfold eachTo
  rw [if_pos hp, if_pos hp, eachOf_take kind is job l k hk, if_pos h]
theorem eachTo_all : eachTo p kind is job l l.length = if p = true then eachOf kind is job l 0 else [] := by
  unfold eachTo
  rw [List.take_length]
theorem eachTo_length : (eachTo p kind is job l k).length ≤ l.length := by
  unfold eachTo
  split
  · exact Nat.le_trans (eachOf_length _ _ _ _ _) (by rw [List.length_take]; omega)
  · simp
end
theorem give_all (s : LS) : eachTo (decide (0 ≤ s.given)) 2 isIdle (fun _ => s.given) s.ws s.ws.length = s.mGive := by
  rw [eachTo_all]
  unfold LS.mGive
  simp
theorem leave_all (s : LS) : eachTo (decide (s.shut = true ∧ s.ch = [])) 4 isIdle (fun _ => 0) s.ws s.ws.length = s.mLeave := by
  rw [eachTo_all]
  unfold LS.mLeave
  simp
theorem ans_all (s : LS) : eachTo (decide (s.out = 0)) 5 isBusy (fun x => x.2) s.ws s.ws.length = s.mAns := by
  rw [eachTo_all]
  unfold LS.mAns
  simp
theorem quit_all (s : LS) (h : s.canc = true) : ((if s.shut = false then [⟨6, -2, 0⟩] else []) ++ (if s.out = 0 then [⟨6, -1, 0⟩] else [])) ++ eachTo true 6 notLeft (fun _ => 0) s.ws s.ws.length = s.mQuit := by
  rw [eachTo_all]
  unfold LS.mQuit
  rw [if_pos h]
  simp
/-- What a worker is, as the law's three cases have it. -/
theorem worker_three {x : Nat × Nat} {y : Int × Bool} (h : WkOk x y) (h2 : x.1 ≤ 2) (hz : x.1 = 0 → x.2 = 0) :
    (isIdle x = true ∧ isBusy x = false ∧ notLeft x = true ∧ y = (-1, false)) ∨ (isIdle x = false ∧ isBusy x = true ∧ notLeft x = true ∧ y = ((x.2 : Int), false)) ∨ (isIdle x = false ∧ isBusy x = false ∧ notLeft x = false ∧ y.2 = true) := by
  obtain ⟨a, c⟩ := x
  obtain ⟨j, g⟩ := y
  have hg := h.gone
  simp only at h2 hz hg
  by_cases e0 : a = 0
  · subst e0
    left
    have := h.idle rfl
    simp only at this
    have hc := hz rfl
    subst this hc
    simp [isIdle, isBusy, notLeft, hg]
  · by_cases e1 : a = 1
    · subst e1
      right; left
      have := h.busy rfl
      simp only at this
      subst this
      simp [isIdle, isBusy, notLeft, hg]
    · have e2 : a = 2 := by omega
      subst e2
      right; right
      simp [isIdle, isBusy, notLeft, hg]

set_option maxRecDepth 100000 in
set_option maxHeartbeats 4000000 in
theorem rmoves_calls (w : World) (b : Nat) (s : LS) (q : RV) (h : RefIs w b s q) (hi : s.inv) (hz : ∀ x ∈ s.ws, x.1 = 0 → x.2 = 0) : Calls Try.prog 25 #[.pointer (some ⟨b, 0, none⟩)] w fun e w' => ∃ v, e = .returned v ∧ RowIs w' 31 3 v s.moves.length (mCells s.moves) ∧ Chg [] w w' ∧ ∀ g, v.ownBlock = some g → w.heap.size ≤ g := by
  have hwl : s.ws.length ≤ 64 := h.2.2.2.2.2.1.ws
  obtain ⟨m1, m2, m3, m4, m5⟩ := mlen s hwl
  obtain ⟨wa, wcap, hwv⟩ := h.slice
  have HV := Lib.hid hwv
  have HI := Lib.hid hi
  have HZ := Lib.hid hz
  clear hz
  have HH := Lib.hid h
  have hbl := World.block_lt_of_cell? _ _ h.cells.1
  clear hwv hi h
  go_enter Try.func25, Try.ntmps25
  go_upto_region 2 with (fail)
  go_cut [4] from 9 to 24 (fun mm wx => mm = .bool s.moreB ∧ Chg [] w wx)
  case first =>
    obtain ⟨c0, c1, c2, c3, c4, c5, c6, c7, c8, c9, c10, c11, c12⟩ := HH.out.cells
    have hm : s.moreB = (!s.shut && decide (s.next < s.jobs)) := rfl
    have HM := Lib.hid hm
    clear hm
    cases e1 : s.shut with
    | true =>
      rw [e1] at c3
      go_quiet (fail)
      go_wp2
      go_meet
      exact ⟨by rw [HM.out, e1]; rfl, (Chg.refl _ _).drewN _⟩
    | false =>
      rw [e1] at c3
      go_quiet (fail)
      go_wp2
      go_meet
      exact ⟨by rw [HM.out, e1]; simp, (Chg.refl _ _).drewN _⟩
  case rest =>
  obtain ⟨rfl, hcw⟩ := hcut
  go_upto_region 3 with (fail)
  go_cut [4, 37] from 25 to 36 (fun mm bb wx => mm = .bool s.moreB ∧ bb = .bool (s.moreB && decide (s.ch.length < s.room)) ∧ Chg [] w wx)
  case first =>
    have hC := HH.out.chg0 hcw
    obtain ⟨c0, c1, c2, c3, c4, c5, c6, c7, c8, c9, c10, c11, c12⟩ := hC.cells
    obtain ⟨qa, qc, hqv, _⟩ := hC.2.1.slice
    rw [hqv] at c4
    cases hB : s.moreB with
    | true =>
      go_quiet (fail)
      go_wp2
      go_meet
      exact ⟨by rw [hB], by rw [hB]; simp, hcw.drewN _⟩
    | false =>
      go_quiet (fail)
      go_wp2
      go_meet
      exact ⟨by rw [hB], by rw [hB]; simp, hcw.drewN _⟩
  case rest =>
  obtain ⟨rfl, rfl, hcw2⟩ := hcut
  clear hcw
  go_upto_if 37 with (fail)
  go_cut [3, 37] from 38 to 45 (fun vv bb wx => ∃ v, v = vv ∧ OutN w wx v s.mPut)
  case first =>
    have hO : OutN w _ (.slice none 0 0) [] := ⟨RowIs.nil _ _ _, hcw2, by simp [Value.ownBlock]⟩
    have hC := HH.out.chg0 hO.chg
    obtain ⟨c0, c1, c2, c3, c4, c5, c6, c7, c8, c9, c10, c11, c12⟩ := hC.cells
    rw [HV.out] at c6
    have hbl2 := World.block_lt_of_cell? _ _ c0
    cases hB : (s.moreB && decide (s.ch.length < s.room)) with
    | true =>
      obtain ⟨ov, ow, hrun, hO2⟩ := hO.app (by simp) ⟨1, 0, s.next⟩
      have hE : s.mPut = [⟨1, 0, s.next⟩] := by
        unfold LS.mPut
        rw [if_pos]
        simp [LS.moreB] at hB
        exact ⟨hB.1.1, hB.1.2, hB.2⟩
      have HE := Lib.hid hE
      have HO2 := Lib.hid hO2
      clear hE hO2 hO hB
      go_wp2
      go_meet
      exact ⟨_, rfl, by rw [HE.out]; exact HO2.out⟩
    | false =>
      have hE : s.mPut = [] := by
        unfold LS.mPut
        rw [if_neg]
        rintro ⟨h1, h2, h3⟩
        simp [LS.moreB, h1, h2] at hB
        omega
      have HE := Lib.hid hE
      clear hE hB
      go_wp2
      go_meet
      exact ⟨_, rfl, by rw [HE.out]; exact hO⟩
  case rest =>
  obtain ⟨v, rfl, hO⟩ := hcut
  clear hcw2
  go_upto_region 5 with (fail)
  go_cut [5] from 5 to 5 (fun ii wx => ii = .int .i64 0 ∧ OutN w wx v s.mPut)
  case first =>
    go_wp2
    go_meet
    exact ⟨rfl, hO⟩
  case rest =>
  clear hO
  obtain ⟨rfl, hO⟩ := hcut
  go_step
  go_cut [3, 4] from 5 to 5 (fun vv mm wx => ∃ v, v = vv ∧ OutN w wx v (s.mPut ++ s.mGive))
  case first =>
    cases hB : s.moreB with
    | true =>
      have HB := Lib.hid hB
      clear hB
      go_upto_region 6 with (fail)
      go_loopg [3, 5] s.ws.length (fun g vv ii wr => ∃ (k : Nat) (v : Value), k ≤ s.ws.length ∧ g = s.ws.length - k ∧ ii = .int .i64 k ∧ vv = v ∧ OutN w wr v (s.mPut ++ eachTo (decide (0 ≤ s.given)) 2 isIdle (fun _ => s.given) s.ws k))
      case atStart => exact ⟨0, _, by omega, by omega, rfl, rfl, by rw [eachTo_zero, List.append_nil]; exact hO⟩
      case round =>
        clear hO
        obtain ⟨k, v, hk, hgk, rfl, rfl, hO⟩ := hrel
        have hC := HH.out.chg0 hO.chg
        obtain ⟨c0, c1, c2, c3, c4, c5, c6, c7, c8, c9, c10, c11, c12⟩ := hC.cells
        rw [HV.out] at c6
        have hbl2 := World.block_lt_of_cell? _ _ c0
        obtain ⟨qa, qc, hqv, _⟩ := hC.2.1.slice
        have hqr := hC.2.1
        rw [hqv] at c4 hqr
        have HQV := Lib.hid hqv
        clear hqv
        by_cases hlt : k < s.ws.length
        · skip
          have hlt' : k < s.ws.length := hlt
          obtain ⟨wg, wo, wcc, hwe, _, y, hy, hw0, hw1⟩ := hC.worker hlt'
          rw [HV.out] at hwe
          simp only [Value.slice.injEq, true_and] at hwe
          obtain ⟨rfl, rfl⟩ := hwe
          have hwgl := World.block_lt_of_cell? _ _ hw0
          have h3 := worker_three hy (HH.out.2.2.2.2.2.1.st _ (List.getElem_mem hlt')).1 (HZ.out _ (List.getElem_mem hlt'))
          clear hy
          have hel : (eachTo (decide (0 ≤ s.given)) 2 isIdle (fun _ => s.given) s.ws k).length ≤ s.ws.length := eachTo_length
          rcases h3 with ⟨i1, i2, i3, rfl⟩ | ⟨i1, i2, i3, rfl⟩ | ⟨i1, i2, i3, hyg⟩
          · dsimp only at hw0 hw1
            rcases given_eq s HI.out with ⟨g1, g2⟩ | ⟨g1, g2⟩
            · have b1 : ((s.room : Int) == 0) = true := by simp [g1]
              have b2 : decide (0 < s.room) = false := by simp [g1]
              have b3 : ¬ 0 < s.room := by omega
              have hg : s.given = s.next := by
                have hB' := HB.out
                simp [LS.moreB] at hB'
                rw [g2, if_pos ⟨hB'.1, hB'.2⟩]
              have hE : eachTo (decide (0 ≤ s.given)) 2 isIdle (fun _ => s.given) s.ws (k + 1) = eachTo (decide (0 ≤ s.given)) 2 isIdle (fun _ => s.given) s.ws k ++ [⟨2, k, s.next⟩] := by
                rw [eachTo_add hlt' (by simp [hg]) i1]
                simp only [hg]
              clear g1 g2 hg hqr
              have HE := Lib.hid (hE)
              obtain ⟨ov, ow, hrun, hO2⟩ := hO.app (by simp only [List.length_append]; omega) ⟨2, k, s.next⟩
              have hC2 := HH.out.chg0 hO2.chg
              obtain ⟨e0, e1, e2, e3, e4, e5, e6, e7, e8, e9, e10, e11, e12⟩ := hC2.cells
              rw [HV.out] at e6
              have hbl3 := World.block_lt_of_cell? _ _ e0
              have HO2 := Lib.hid hO2
              clear hO hO2 hC2
              go_wp2
              go_roundg (s.ws.length - (k + 1))
              case measure => omega
              case rel => exact ⟨k + 1, _, by omega, rfl, by go_num, rfl, by rw [HE.out, ← List.append_assoc]; exact HO2.out⟩
            · have b1 : ((s.room : Int) == 0) = false := beq_eq_false_iff_ne.2 (by omega)
              have b2 : decide (0 < s.room) = true := by simp [g1]
              by_cases hl0 : s.ch.length = 0
              · have b4 : decide (0 < s.ch.length) = false := by simp [hl0]
                have b5 : ¬ 0 < s.ch.length := by omega
                have hg : s.given = -1 := by rw [g2, List.eq_nil_of_length_eq_zero hl0]
                have hE : eachTo (decide (0 ≤ s.given)) 2 isIdle (fun _ => s.given) s.ws (k + 1) = eachTo (decide (0 ≤ s.given)) 2 isIdle (fun _ => s.given) s.ws k := eachTo_off (by simp [hg])
                have HE := Lib.hid hE
                clear g2 hg hqr hE hl0
                go_wp2
                go_roundg (s.ws.length - (k + 1))
                case measure => omega
                case rel => exact ⟨k + 1, _, by omega, rfl, by go_num, rfl, by rw [HE.out]; exact hO⟩
              · have b4 : decide (0 < s.ch.length) = true := by simp; omega
                have b5 : 0 < s.ch.length := by omega
                obtain ⟨jj, hg, hjj⟩ : ∃ jj : Nat, s.given = jj ∧ (iCells s.ch)[0]? = some (.int .i64 jj) := by
                  cases hcl : s.ch with
                  | nil => rw [hcl] at hl0; simp at hl0
                  | cons x l => rw [hcl] at g2; exact ⟨x, g2, rfl⟩
                obtain ⟨qg, qo, qcc, hqe, _, _⟩ := hqr.ptr b5
                simp only [Value.slice.injEq, true_and] at hqe
                obtain ⟨rfl, rfl⟩ := hqe
                have hqc := hqr.cell hjj
                rw [Nat.add_zero] at hqc
                have hql := World.block_lt_of_cell? _ _ hqc
                have hE : eachTo (decide (0 ≤ s.given)) 2 isIdle (fun _ => s.given) s.ws (k + 1) = eachTo (decide (0 ≤ s.given)) 2 isIdle (fun _ => s.given) s.ws k ++ [⟨2, k, jj⟩] := by
                  rw [eachTo_add hlt' (by simp [hg]) i1]
                  simp only [hg]
                clear g2 hg hjj hl0 hqr
                have HE := Lib.hid (hE)
                obtain ⟨ov, ow, hrun, hO2⟩ := hO.app (by simp only [List.length_append]; omega) ⟨2, k, jj⟩
                have hC2 := HH.out.chg0 hO2.chg
                obtain ⟨e0, e1, e2, e3, e4, e5, e6, e7, e8, e9, e10, e11, e12⟩ := hC2.cells
                rw [HV.out] at e6
                have hbl3 := World.block_lt_of_cell? _ _ e0
                have HO2 := Lib.hid hO2
                clear hO hO2 hC2
                go_wp2
                go_roundg (s.ws.length - (k + 1))
                case measure => omega
                case rel => exact ⟨k + 1, _, by omega, rfl, by go_num, rfl, by rw [HE.out, ← List.append_assoc]; exact HO2.out⟩
          · dsimp only at hw0 hw1
            have d1 : decide ((0 : Int) ≤ (s.ws[k].2 : Int)) = true := by simp
            clear hqr
            generalize hx2 : s.ws[k].2 = xj at hw0 d1
            clear hx2
            go_wp2
            go_roundg (s.ws.length - (k + 1))
            case measure => omega
            case rel => exact ⟨k + 1, _, by omega, rfl, by go_num, rfl, by rw [eachTo_skip hlt' i1]; exact hO⟩
          · rw [hyg] at hw1
            clear hqr
            go_wp2
            go_roundg (s.ws.length - (k + 1))
            case measure => omega
            case rel => exact ⟨k + 1, _, by omega, rfl, by go_num, rfl, by rw [eachTo_skip hlt' i1]; exact hO⟩
        · obtain rfl : k = s.ws.length := by omega
          rw [give_all] at hO
          clear hqr
          go_wp2
          go_meet
          exact ⟨_, rfl, hO⟩
    | false =>
      have HB := Lib.hid hB
      clear hB
      go_upto_region 6 with (fail)
      go_loopg [3, 5] s.ws.length (fun g vv ii wr => ∃ (k : Nat) (v : Value), k ≤ s.ws.length ∧ g = s.ws.length - k ∧ ii = .int .i64 k ∧ vv = v ∧ OutN w wr v (s.mPut ++ eachTo (decide (0 ≤ s.given)) 2 isIdle (fun _ => s.given) s.ws k))
      case atStart => exact ⟨0, _, by omega, by omega, rfl, rfl, by rw [eachTo_zero, List.append_nil]; exact hO⟩
      case round =>
        clear hO
        obtain ⟨k, v, hk, hgk, rfl, rfl, hO⟩ := hrel
        have hC := HH.out.chg0 hO.chg
        obtain ⟨c0, c1, c2, c3, c4, c5, c6, c7, c8, c9, c10, c11, c12⟩ := hC.cells
        rw [HV.out] at c6
        have hbl2 := World.block_lt_of_cell? _ _ c0
        obtain ⟨qa, qc, hqv, _⟩ := hC.2.1.slice
        have hqr := hC.2.1
        rw [hqv] at c4 hqr
        have HQV := Lib.hid hqv
        clear hqv
        by_cases hlt : k < s.ws.length
        · skip
          have hlt' : k < s.ws.length := hlt
          obtain ⟨wg, wo, wcc, hwe, _, y, hy, hw0, hw1⟩ := hC.worker hlt'
          rw [HV.out] at hwe
          simp only [Value.slice.injEq, true_and] at hwe
          obtain ⟨rfl, rfl⟩ := hwe
          have hwgl := World.block_lt_of_cell? _ _ hw0
          have h3 := worker_three hy (HH.out.2.2.2.2.2.1.st _ (List.getElem_mem hlt')).1 (HZ.out _ (List.getElem_mem hlt'))
          clear hy
          have hel : (eachTo (decide (0 ≤ s.given)) 2 isIdle (fun _ => s.given) s.ws k).length ≤ s.ws.length := eachTo_length
          rcases h3 with ⟨i1, i2, i3, rfl⟩ | ⟨i1, i2, i3, rfl⟩ | ⟨i1, i2, i3, hyg⟩
          · dsimp only at hw0 hw1
            rcases given_eq s HI.out with ⟨g1, g2⟩ | ⟨g1, g2⟩
            · have b1 : ((s.room : Int) == 0) = true := by simp [g1]
              have b2 : decide (0 < s.room) = false := by simp [g1]
              have b3 : ¬ 0 < s.room := by omega
              have hg : s.given = -1 := by
                rw [g2, if_neg]
                rintro ⟨h1, h2⟩
                have hB' := HB.out
                simp [LS.moreB, h1] at hB'
                omega
              have hE : eachTo (decide (0 ≤ s.given)) 2 isIdle (fun _ => s.given) s.ws (k + 1) = eachTo (decide (0 ≤ s.given)) 2 isIdle (fun _ => s.given) s.ws k := eachTo_off (by simp [hg])
              have HE := Lib.hid hE
              clear g1 g2 hg hqr hE
              go_wp2
              go_roundg (s.ws.length - (k + 1))
              case measure => omega
              case rel => exact ⟨k + 1, _, by omega, rfl, by go_num, rfl, by rw [HE.out]; exact hO⟩
            · have b1 : ((s.room : Int) == 0) = false := beq_eq_false_iff_ne.2 (by omega)
              have b2 : decide (0 < s.room) = true := by simp [g1]
              by_cases hl0 : s.ch.length = 0
              · have b4 : decide (0 < s.ch.length) = false := by simp [hl0]
                have b5 : ¬ 0 < s.ch.length := by omega
                have hg : s.given = -1 := by rw [g2, List.eq_nil_of_length_eq_zero hl0]
                have hE : eachTo (decide (0 ≤ s.given)) 2 isIdle (fun _ => s.given) s.ws (k + 1) = eachTo (decide (0 ≤ s.given)) 2 isIdle (fun _ => s.given) s.ws k := eachTo_off (by simp [hg])
                have HE := Lib.hid hE
                clear g2 hg hqr hE hl0
                go_wp2
                go_roundg (s.ws.length - (k + 1))
                case measure => omega
                case rel => exact ⟨k + 1, _, by omega, rfl, by go_num, rfl, by rw [HE.out]; exact hO⟩
              · have b4 : decide (0 < s.ch.length) = true := by simp; omega
                have b5 : 0 < s.ch.length := by omega
                obtain ⟨jj, hg, hjj⟩ : ∃ jj : Nat, s.given = jj ∧ (iCells s.ch)[0]? = some (.int .i64 jj) := by
                  cases hcl : s.ch with
                  | nil => rw [hcl] at hl0; simp at hl0
                  | cons x l => rw [hcl] at g2; exact ⟨x, g2, rfl⟩
                obtain ⟨qg, qo, qcc, hqe, _, _⟩ := hqr.ptr b5
                simp only [Value.slice.injEq, true_and] at hqe
                obtain ⟨rfl, rfl⟩ := hqe
                have hqc := hqr.cell hjj
                rw [Nat.add_zero] at hqc
                have hql := World.block_lt_of_cell? _ _ hqc
                have hE : eachTo (decide (0 ≤ s.given)) 2 isIdle (fun _ => s.given) s.ws (k + 1) = eachTo (decide (0 ≤ s.given)) 2 isIdle (fun _ => s.given) s.ws k ++ [⟨2, k, jj⟩] := by
                  rw [eachTo_add hlt' (by simp [hg]) i1]
                  simp only [hg]
                clear g2 hg hjj hl0 hqr
                have HE := Lib.hid (hE)
                obtain ⟨ov, ow, hrun, hO2⟩ := hO.app (by simp only [List.length_append]; omega) ⟨2, k, jj⟩
                have hC2 := HH.out.chg0 hO2.chg
                obtain ⟨e0, e1, e2, e3, e4, e5, e6, e7, e8, e9, e10, e11, e12⟩ := hC2.cells
                rw [HV.out] at e6
                have hbl3 := World.block_lt_of_cell? _ _ e0
                have HO2 := Lib.hid hO2
                clear hO hO2 hC2
                go_wp2
                go_roundg (s.ws.length - (k + 1))
                case measure => omega
                case rel => exact ⟨k + 1, _, by omega, rfl, by go_num, rfl, by rw [HE.out, ← List.append_assoc]; exact HO2.out⟩
          · dsimp only at hw0 hw1
            have d1 : decide ((0 : Int) ≤ (s.ws[k].2 : Int)) = true := by simp
            clear hqr
            generalize hx2 : s.ws[k].2 = xj at hw0 d1
            clear hx2
            go_wp2
            go_roundg (s.ws.length - (k + 1))
            case measure => omega
            case rel => exact ⟨k + 1, _, by omega, rfl, by go_num, rfl, by rw [eachTo_skip hlt' i1]; exact hO⟩
          · rw [hyg] at hw1
            clear hqr
            go_wp2
            go_roundg (s.ws.length - (k + 1))
            case measure => omega
            case rel => exact ⟨k + 1, _, by omega, rfl, by go_num, rfl, by rw [eachTo_skip hlt' i1]; exact hO⟩
        · obtain rfl : k = s.ws.length := by omega
          rw [give_all] at hO
          clear hqr
          go_wp2
          go_meet
          exact ⟨_, rfl, hO⟩
  case rest =>
  clear hO
  obtain ⟨v, rfl, hO⟩ := hcut
  go_upto_region 13 with (fail)
  go_cut [130] from 115 to 129 (fun bb wx => bb = .bool (decide (s.shut = false ∧ s.next = s.jobs)) ∧ OutN w wx v (s.mPut ++ s.mGive))
  case first =>
    have hC := HH.out.chg0 hO.chg
    obtain ⟨c0, c1, c2, c3, c4, c5, c6, c7, c8, c9, c10, c11, c12⟩ := hC.cells
    rw [HV.out] at c6
    have hbl2 := World.block_lt_of_cell? _ _ c0
    cases e1 : s.shut with
    | true =>
      rw [e1] at c3
      go_quiet (fail)
      go_wp2
      go_meet
      exact ⟨by simp [e1], hO.chg0 ((Chg.refl _ _).drewN _)⟩
    | false =>
      rw [e1] at c3
      go_quiet (fail)
      go_wp2
      go_meet
      exact ⟨by congr 1; rw [Bool.eq_iff_iff]; simp [e1]; omega, hO.chg0 ((Chg.refl _ _).drewN _)⟩
  case rest =>
  clear hO
  obtain ⟨rfl, hO⟩ := hcut
  go_upto_if 130 with (fail)
  go_cut [3, 130] from 131 to 134 (fun vv bb wx => ∃ v, v = vv ∧ OutN w wx v (s.mPut ++ s.mGive ++ s.mShut))
  case first =>
    have hC := HH.out.chg0 hO.chg
    obtain ⟨c0, c1, c2, c3, c4, c5, c6, c7, c8, c9, c10, c11, c12⟩ := hC.cells
    rw [HV.out] at c6
    have hbl2 := World.block_lt_of_cell? _ _ c0
    by_cases hB : s.shut = false ∧ s.next = s.jobs
    · have b1 : decide (s.shut = false ∧ s.next = s.jobs) = true := decide_eq_true hB
      obtain ⟨ov, ow, hrun, hO2⟩ := hO.app (by simp only [List.length_append]; omega) ⟨3, 0, 0⟩
      have hE : s.mShut = [⟨3, 0, 0⟩] := by unfold LS.mShut; rw [if_pos hB]
      have HE := Lib.hid hE
      have HO2 := Lib.hid hO2
      clear hE hO2 hO hB
      rw [b1]
      go_wp2
      go_meet
      exact ⟨_, rfl, by rw [HE.out]; exact HO2.out⟩
    · have b1 : decide (s.shut = false ∧ s.next = s.jobs) = false := decide_eq_false hB
      have hE : s.mShut = [] := by unfold LS.mShut; rw [if_neg hB]
      have HE := Lib.hid hE
      clear hE hB
      rw [b1]
      go_wp2
      go_meet
      exact ⟨_, rfl, by rw [HE.out, List.append_nil]; exact hO⟩
  case rest =>
  clear hO
  obtain ⟨v, rfl, hO⟩ := hcut
  go_upto_region 15 with (fail)
  go_cut [6] from 6 to 6 (fun ii wx => ii = .int .i64 0 ∧ OutN w wx v (s.mPut ++ s.mGive ++ s.mShut))
  case first =>
    go_wp2
    go_meet
    exact ⟨rfl, hO⟩
  case rest =>
  clear hO
  obtain ⟨rfl, hO⟩ := hcut
  go_step
  go_cut [3] from 6 to 6 (fun vv wx => ∃ v, v = vv ∧ OutN w wx v (s.mPut ++ s.mGive ++ s.mShut ++ s.mLeave))
  case first =>
    cases hsh : s.shut with
    | true =>
      have HS := Lib.hid hsh
      go_upto_region 16 with (fail)
      go_loopg [3, 6] s.ws.length (fun g vv ii wr => ∃ (k : Nat) (v : Value), k ≤ s.ws.length ∧ g = s.ws.length - k ∧ ii = .int .i64 k ∧ vv = v ∧ OutN w wr v (s.mPut ++ s.mGive ++ s.mShut ++ eachTo (decide (s.shut = true ∧ s.ch = [])) 4 isIdle (fun _ => 0) s.ws k))
      case atStart => exact ⟨0, _, by omega, by omega, rfl, rfl, by rw [eachTo_zero, List.append_nil]; exact hO⟩
      case round =>
        clear hO
        obtain ⟨k, v, hk, hgk, rfl, rfl, hO⟩ := hrel
        have hC := HH.out.chg0 hO.chg
        obtain ⟨c0, c1, c2, c3, c4, c5, c6, c7, c8, c9, c10, c11, c12⟩ := hC.cells
        rw [HV.out] at c6
        have hbl2 := World.block_lt_of_cell? _ _ c0
        obtain ⟨qa, qc, hqv, _⟩ := hC.2.1.slice
        rw [hqv] at c4
        have HQV := Lib.hid hqv
        clear hqv
        rw [hsh] at c5
        by_cases hlt : k < s.ws.length
        · skip
          have hlt' : k < s.ws.length := hlt
          obtain ⟨wg, wo, wcc, hwe, _, y, hy, hw0, hw1⟩ := hC.worker hlt'
          rw [HV.out] at hwe
          simp only [Value.slice.injEq, true_and] at hwe
          obtain ⟨rfl, rfl⟩ := hwe
          have hwgl := World.block_lt_of_cell? _ _ hw0
          have h3 := worker_three hy (HH.out.2.2.2.2.2.1.st _ (List.getElem_mem hlt')).1 (HZ.out _ (List.getElem_mem hlt'))
          clear hy
          have hel : (eachTo (decide (s.shut = true ∧ s.ch = [])) 4 isIdle (fun _ => 0) s.ws k).length ≤ s.ws.length := eachTo_length
          rcases h3 with ⟨i1, i2, i3, rfl⟩ | ⟨i1, i2, i3, rfl⟩ | ⟨i1, i2, i3, hyg⟩
          · dsimp only at hw0 hw1
            by_cases hl0 : s.ch.length = 0
            · have b4 : ((s.ch.length : Int) == 0) = true := by simp [hl0]
              have hcn : s.ch = [] := List.eq_nil_of_length_eq_zero hl0
              have hE : eachTo (decide (s.shut = true ∧ s.ch = [])) 4 isIdle (fun _ => 0) s.ws (k + 1) = eachTo (decide (s.shut = true ∧ s.ch = [])) 4 isIdle (fun _ => 0) s.ws k ++ [⟨4, k, 0⟩] := eachTo_add hlt' (by simp [HS.out, hcn]) i1
              clear hl0 hcn
              have HE := Lib.hid (hE)
              obtain ⟨ov, ow, hrun, hO2⟩ := hO.app (by simp only [List.length_append]; omega) ⟨4, k, 0⟩
              have hC2 := HH.out.chg0 hO2.chg
              obtain ⟨e0, e1, e2, e3, e4, e5, e6, e7, e8, e9, e10, e11, e12⟩ := hC2.cells
              rw [HV.out] at e6
              have hbl3 := World.block_lt_of_cell? _ _ e0
              have HO2 := Lib.hid hO2
              clear hO hO2 hC2
              go_wp2
              go_roundg (s.ws.length - (k + 1))
              case measure => omega
              case rel => exact ⟨k + 1, _, by omega, rfl, by go_num, rfl, by rw [HE.out, ← List.append_assoc]; exact HO2.out⟩
            · have b4 : ((s.ch.length : Int) == 0) = false := beq_eq_false_iff_ne.2 (by omega)
              have hE : eachTo (decide (s.shut = true ∧ s.ch = [])) 4 isIdle (fun _ => 0) s.ws (k + 1) = eachTo (decide (s.shut = true ∧ s.ch = [])) 4 isIdle (fun _ => 0) s.ws k := eachTo_off (decide_eq_false (by rintro ⟨_, h⟩; rw [h] at hl0; exact hl0 rfl))
              have HE := Lib.hid hE
              clear hE
              go_wp2
              go_roundg (s.ws.length - (k + 1))
              case measure => omega
              case rel => exact ⟨k + 1, _, by omega, rfl, by go_num, rfl, by rw [HE.out]; exact hO⟩
          · dsimp only at hw0 hw1
            have d1 : decide ((s.ws[k].2 : Int) < 0) = false := by simp
            have d2 : ¬ (s.ws[k].2 : Int) < 0 := by omega
            generalize hx2 : s.ws[k].2 = xj at hw0 d1 d2
            clear hx2
            go_wp2
            go_roundg (s.ws.length - (k + 1))
            case measure => omega
            case rel => exact ⟨k + 1, _, by omega, rfl, by go_num, rfl, by rw [eachTo_skip hlt' i1]; exact hO⟩
          · rw [hyg] at hw1
            go_wp2
            go_roundg (s.ws.length - (k + 1))
            case measure => omega
            case rel => exact ⟨k + 1, _, by omega, rfl, by go_num, rfl, by rw [eachTo_skip hlt' i1]; exact hO⟩
        · obtain rfl : k = s.ws.length := by omega
          rw [leave_all] at hO
          go_wp2
          go_meet
          exact ⟨_, rfl, hO⟩
    | false =>
      have HS := Lib.hid hsh
      go_upto_region 16 with (fail)
      go_loopg [3, 6] s.ws.length (fun g vv ii wr => ∃ (k : Nat) (v : Value), k ≤ s.ws.length ∧ g = s.ws.length - k ∧ ii = .int .i64 k ∧ vv = v ∧ OutN w wr v (s.mPut ++ s.mGive ++ s.mShut ++ eachTo (decide (s.shut = true ∧ s.ch = [])) 4 isIdle (fun _ => 0) s.ws k))
      case atStart => exact ⟨0, _, by omega, by omega, rfl, rfl, by rw [eachTo_zero, List.append_nil]; exact hO⟩
      case round =>
        clear hO
        obtain ⟨k, v, hk, hgk, rfl, rfl, hO⟩ := hrel
        have hC := HH.out.chg0 hO.chg
        obtain ⟨c0, c1, c2, c3, c4, c5, c6, c7, c8, c9, c10, c11, c12⟩ := hC.cells
        rw [HV.out] at c6
        have hbl2 := World.block_lt_of_cell? _ _ c0
        obtain ⟨qa, qc, hqv, _⟩ := hC.2.1.slice
        rw [hqv] at c4
        have HQV := Lib.hid hqv
        clear hqv
        rw [hsh] at c5
        by_cases hlt : k < s.ws.length
        · skip
          have hlt' : k < s.ws.length := hlt
          obtain ⟨wg, wo, wcc, hwe, _, y, hy, hw0, hw1⟩ := hC.worker hlt'
          rw [HV.out] at hwe
          simp only [Value.slice.injEq, true_and] at hwe
          obtain ⟨rfl, rfl⟩ := hwe
          have hwgl := World.block_lt_of_cell? _ _ hw0
          have h3 := worker_three hy (HH.out.2.2.2.2.2.1.st _ (List.getElem_mem hlt')).1 (HZ.out _ (List.getElem_mem hlt'))
          clear hy
          have hel : (eachTo (decide (s.shut = true ∧ s.ch = [])) 4 isIdle (fun _ => 0) s.ws k).length ≤ s.ws.length := eachTo_length
          rcases h3 with ⟨i1, i2, i3, rfl⟩ | ⟨i1, i2, i3, rfl⟩ | ⟨i1, i2, i3, hyg⟩
          · dsimp only at hw0 hw1
            have hE : eachTo (decide (s.shut = true ∧ s.ch = [])) 4 isIdle (fun _ => 0) s.ws (k + 1) = eachTo (decide (s.shut = true ∧ s.ch = [])) 4 isIdle (fun _ => 0) s.ws k := eachTo_off (decide_eq_false (by rintro ⟨h, _⟩; rw [HS.out] at h; cases h))
            have HE := Lib.hid hE
            clear hE
            go_wp2
            go_roundg (s.ws.length - (k + 1))
            case measure => omega
            case rel => exact ⟨k + 1, _, by omega, rfl, by go_num, rfl, by rw [HE.out]; exact hO⟩
          · dsimp only at hw0 hw1
            have d1 : decide ((s.ws[k].2 : Int) < 0) = false := by simp
            have d2 : ¬ (s.ws[k].2 : Int) < 0 := by omega
            generalize hx2 : s.ws[k].2 = xj at hw0 d1 d2
            clear hx2
            go_wp2
            go_roundg (s.ws.length - (k + 1))
            case measure => omega
            case rel => exact ⟨k + 1, _, by omega, rfl, by go_num, rfl, by rw [eachTo_skip hlt' i1]; exact hO⟩
          · rw [hyg] at hw1
            go_wp2
            go_roundg (s.ws.length - (k + 1))
            case measure => omega
            case rel => exact ⟨k + 1, _, by omega, rfl, by go_num, rfl, by rw [eachTo_skip hlt' i1]; exact hO⟩
        · obtain rfl : k = s.ws.length := by omega
          rw [leave_all] at hO
          go_wp2
          go_meet
          exact ⟨_, rfl, hO⟩
  case rest =>
  clear hO
  obtain ⟨v, rfl, hO⟩ := hcut
  go_upto_region 20 with (fail)
  go_cut [7] from 7 to 7 (fun ii wx => ii = .int .i64 0 ∧ OutN w wx v (s.mPut ++ s.mGive ++ s.mShut ++ s.mLeave))
  case first =>
    go_wp2
    go_meet
    exact ⟨rfl, hO⟩
  case rest =>
  clear hO
  obtain ⟨rfl, hO⟩ := hcut
  go_step
  go_cut [3] from 7 to 7 (fun vv wx => ∃ v, v = vv ∧ OutN w wx v (s.mPut ++ s.mGive ++ s.mShut ++ s.mLeave ++ s.mAns))
  case first =>
    by_cases hout : s.out = 0
    · have hdn : decide (s.out ≠ 0) = false := by simp [hout]
      have HDN := Lib.hid hdn
      have HOUT := Lib.hid hout
      clear hdn hout
      go_upto_region 21 with (fail)
      go_loopg [3, 7] s.ws.length (fun g vv ii wr => ∃ (k : Nat) (v : Value), k ≤ s.ws.length ∧ g = s.ws.length - k ∧ ii = .int .i64 k ∧ vv = v ∧ OutN w wr v (s.mPut ++ s.mGive ++ s.mShut ++ s.mLeave ++ eachTo (decide (s.out = 0)) 5 isBusy (fun x => x.2) s.ws k))
      case atStart => exact ⟨0, _, by omega, by omega, rfl, rfl, by rw [eachTo_zero, List.append_nil]; exact hO⟩
      case round =>
        clear hO
        obtain ⟨k, v, hk, hgk, rfl, rfl, hO⟩ := hrel
        have hC := HH.out.chg0 hO.chg
        obtain ⟨c0, c1, c2, c3, c4, c5, c6, c7, c8, c9, c10, c11, c12⟩ := hC.cells
        rw [HV.out] at c6
        have hbl2 := World.block_lt_of_cell? _ _ c0
        rw [HDN.out] at c7
        by_cases hlt : k < s.ws.length
        · skip
          have hlt' : k < s.ws.length := hlt
          obtain ⟨wg, wo, wcc, hwe, _, y, hy, hw0, hw1⟩ := hC.worker hlt'
          rw [HV.out] at hwe
          simp only [Value.slice.injEq, true_and] at hwe
          obtain ⟨rfl, rfl⟩ := hwe
          have hwgl := World.block_lt_of_cell? _ _ hw0
          have h3 := worker_three hy (HH.out.2.2.2.2.2.1.st _ (List.getElem_mem hlt')).1 (HZ.out _ (List.getElem_mem hlt'))
          clear hy
          have hel : (eachTo (decide (s.out = 0)) 5 isBusy (fun x => x.2) s.ws k).length ≤ s.ws.length := eachTo_length
          rcases h3 with ⟨i1, i2, i3, rfl⟩ | ⟨i1, i2, i3, rfl⟩ | ⟨i1, i2, i3, hyg⟩
          · dsimp only at hw0 hw1
            go_wp2
            go_roundg (s.ws.length - (k + 1))
            case measure => omega
            case rel => exact ⟨k + 1, _, by omega, rfl, by go_num, rfl, by rw [eachTo_skip hlt' i2]; exact hO⟩
          · dsimp only at hw0 hw1
            have d1 : decide ((0 : Int) ≤ (s.ws[k].2 : Int)) = true := by simp
            have hE : eachTo (decide (s.out = 0)) 5 isBusy (fun x => x.2) s.ws (k + 1) = eachTo (decide (s.out = 0)) 5 isBusy (fun x => x.2) s.ws k ++ [⟨5, k, (s.ws[k].2 : Nat)⟩] := eachTo_add hlt' (by simp [HOUT.out]) i2
            generalize s.ws[k].2 = xj at hw0 d1 hE
            have HE := Lib.hid (hE)
            obtain ⟨ov, ow, hrun, hO2⟩ := hO.app (by simp only [List.length_append]; omega) ⟨5, k, xj⟩
            have hC2 := HH.out.chg0 hO2.chg
            obtain ⟨e0, e1, e2, e3, e4, e5, e6, e7, e8, e9, e10, e11, e12⟩ := hC2.cells
            rw [HV.out] at e6
            have hbl3 := World.block_lt_of_cell? _ _ e0
            have HO2 := Lib.hid hO2
            clear hO hO2 hC2
            go_wp2
            go_roundg (s.ws.length - (k + 1))
            case measure => omega
            case rel => exact ⟨k + 1, _, by omega, rfl, by go_num, rfl, by rw [HE.out, ← List.append_assoc]; exact HO2.out⟩
          · rw [hyg] at hw1
            go_wp2
            go_roundg (s.ws.length - (k + 1))
            case measure => omega
            case rel => exact ⟨k + 1, _, by omega, rfl, by go_num, rfl, by rw [eachTo_skip hlt' i2]; exact hO⟩
        · obtain rfl : k = s.ws.length := by omega
          rw [ans_all] at hO
          go_wp2
          go_meet
          exact ⟨_, rfl, hO⟩
    · have hdn : decide (s.out ≠ 0) = true := by simp [hout]
      have HDN := Lib.hid hdn
      have HOUT := Lib.hid hout
      clear hdn hout
      go_upto_region 21 with (fail)
      go_loopg [3, 7] s.ws.length (fun g vv ii wr => ∃ (k : Nat) (v : Value), k ≤ s.ws.length ∧ g = s.ws.length - k ∧ ii = .int .i64 k ∧ vv = v ∧ OutN w wr v (s.mPut ++ s.mGive ++ s.mShut ++ s.mLeave ++ eachTo (decide (s.out = 0)) 5 isBusy (fun x => x.2) s.ws k))
      case atStart => exact ⟨0, _, by omega, by omega, rfl, rfl, by rw [eachTo_zero, List.append_nil]; exact hO⟩
      case round =>
        clear hO
        obtain ⟨k, v, hk, hgk, rfl, rfl, hO⟩ := hrel
        have hC := HH.out.chg0 hO.chg
        obtain ⟨c0, c1, c2, c3, c4, c5, c6, c7, c8, c9, c10, c11, c12⟩ := hC.cells
        rw [HV.out] at c6
        have hbl2 := World.block_lt_of_cell? _ _ c0
        rw [HDN.out] at c7
        by_cases hlt : k < s.ws.length
        · skip
          have hlt' : k < s.ws.length := hlt
          obtain ⟨wg, wo, wcc, hwe, _, y, hy, hw0, hw1⟩ := hC.worker hlt'
          rw [HV.out] at hwe
          simp only [Value.slice.injEq, true_and] at hwe
          obtain ⟨rfl, rfl⟩ := hwe
          have hwgl := World.block_lt_of_cell? _ _ hw0
          have h3 := worker_three hy (HH.out.2.2.2.2.2.1.st _ (List.getElem_mem hlt')).1 (HZ.out _ (List.getElem_mem hlt'))
          clear hy
          have hel : (eachTo (decide (s.out = 0)) 5 isBusy (fun x => x.2) s.ws k).length ≤ s.ws.length := eachTo_length
          rcases h3 with ⟨i1, i2, i3, rfl⟩ | ⟨i1, i2, i3, rfl⟩ | ⟨i1, i2, i3, hyg⟩
          · dsimp only at hw0 hw1
            go_wp2
            go_roundg (s.ws.length - (k + 1))
            case measure => omega
            case rel => exact ⟨k + 1, _, by omega, rfl, by go_num, rfl, by rw [eachTo_skip hlt' i2]; exact hO⟩
          · dsimp only at hw0 hw1
            have d1 : decide ((0 : Int) ≤ (s.ws[k].2 : Int)) = true := by simp
            have hE : eachTo (decide (s.out = 0)) 5 isBusy (fun x => x.2) s.ws (k + 1) = eachTo (decide (s.out = 0)) 5 isBusy (fun x => x.2) s.ws k := eachTo_off (decide_eq_false HOUT.out)
            have HE := Lib.hid hE
            clear hE
            generalize hx2 : s.ws[k].2 = xj at hw0 d1
            clear hx2
            go_wp2
            go_roundg (s.ws.length - (k + 1))
            case measure => omega
            case rel => exact ⟨k + 1, _, by omega, rfl, by go_num, rfl, by rw [HE.out]; exact hO⟩
          · rw [hyg] at hw1
            go_wp2
            go_roundg (s.ws.length - (k + 1))
            case measure => omega
            case rel => exact ⟨k + 1, _, by omega, rfl, by go_num, rfl, by rw [eachTo_skip hlt' i2]; exact hO⟩
        · obtain rfl : k = s.ws.length := by omega
          rw [ans_all] at hO
          go_wp2
          go_meet
          exact ⟨_, rfl, hO⟩
  case rest =>
  clear hO
  obtain ⟨v, rfl, hO⟩ := hcut
  go_upto_region 25 with (fail)
  cases hcanc : s.canc with
  | false =>
    have hE : s.moves = s.mPut ++ s.mGive ++ s.mShut ++ s.mLeave ++ s.mAns := by
      unfold LS.moves LS.mQuit
      rw [if_neg (by rw [hcanc]; simp), List.append_nil]
    have hC := HH.out.chg0 hO.chg
    obtain ⟨c0, c1, c2, c3, c4, c5, c6, c7, c8, c9, c10, c11, c12⟩ := hC.cells
    rw [HV.out] at c6
    have hbl2 := World.block_lt_of_cell? _ _ c0
    rw [hcanc] at c10
    have HE := Lib.hid hE
    clear hE hcanc
    go_wp2
    go_ret
    rw [HE.out]
    exact ⟨_, rfl, hO.row, hO.chg, hO.new⟩
  | true =>
    have hC := HH.out.chg0 hO.chg
    obtain ⟨c0, c1, c2, c3, c4, c5, c6, c7, c8, c9, c10, c11, c12⟩ := hC.cells
    rw [HV.out] at c6
    have hbl2 := World.block_lt_of_cell? _ _ c0
    rw [hcanc] at c10
    have hE := quit_all s hcanc
    have hM : s.moves = s.mPut ++ s.mGive ++ s.mShut ++ s.mLeave ++ s.mAns ++ s.mQuit := rfl
    rw [← hE] at hM
    have HM := Lib.hid hM
    have HCA := Lib.hid hcanc
    clear hE hM hcanc
    go_upto_region 27 with (fail)
    go_upto_if 242 with (fail)
    go_cut [3] from 238 to 246 (fun vv wx => ∃ v, v = vv ∧ OutN w wx v (s.mPut ++ s.mGive ++ s.mShut ++ s.mLeave ++ s.mAns ++ (if s.shut = false then [⟨6, -2, 0⟩] else [])))
    case first =>
      cases e1 : s.shut with
      | true =>
        have E1 := Lib.hid e1
        clear e1
        go_wp2
        go_meet
        exact ⟨_, rfl, by first | (rw [if_neg (by rw [E1.out]; simp), List.append_nil]; exact hO) | (rw [if_neg (by simp), List.append_nil]; exact hO)⟩
      | false =>
        obtain ⟨ov, ow, hrun, hO2⟩ := hO.app (by simp only [List.length_append]; omega) ⟨6, -2, 0⟩
        have HO2 := Lib.hid hO2
        have E1 := Lib.hid e1
        clear hO2 hO e1
        go_wp2
        go_meet
        exact ⟨_, rfl, by first | (rw [if_pos E1.out]; exact HO2.out) | (rw [if_pos rfl]; exact HO2.out)⟩
    case rest =>
    clear hO c0 c1 c2 c3 c4 c5 c6 c7 c8 c9 c10 c11 c12 hbl2 hC
    obtain ⟨v, rfl, hO⟩ := hcut
    have hC := HH.out.chg0 hO.chg
    obtain ⟨c0, c1, c2, c3, c4, c5, c6, c7, c8, c9, c10, c11, c12⟩ := hC.cells
    rw [HV.out] at c6
    have hbl2 := World.block_lt_of_cell? _ _ c0
    go_upto_if 251 with (fail)
    go_cut [3] from 247 to 255 (fun vv wx => ∃ v, v = vv ∧ OutN w wx v (s.mPut ++ s.mGive ++ s.mShut ++ s.mLeave ++ s.mAns ++ (if s.shut = false then [⟨6, -2, 0⟩] else []) ++ (if s.out = 0 then [⟨6, -1, 0⟩] else [])))
    case first =>
      have hql : (if s.shut = false then [(⟨6, -2, 0⟩ : Mv)] else []).length ≤ 1 := by split <;> simp
      by_cases e1 : s.out = 0
      · have b1 : decide (s.out = 0) = true := decide_eq_true e1
        obtain ⟨ov, ow, hrun, hO2⟩ := hO.app (by simp only [List.length_append]; omega) ⟨6, -1, 0⟩
        have HO2 := Lib.hid hO2
        have E1 := Lib.hid e1
        clear hO2 hO e1
        go_wp2
        go_meet
        exact ⟨_, rfl, by rw [if_pos E1.out]; exact HO2.out⟩
      · have b1 : decide (s.out = 0) = false := decide_eq_false e1
        have E1 := Lib.hid e1
        clear e1
        go_wp2
        go_meet
        exact ⟨_, rfl, by rw [if_neg E1.out, List.append_nil]; exact hO⟩
    case rest =>
    clear hO c0 c1 c2 c3 c4 c5 c6 c7 c8 c9 c10 c11 c12 hbl2 hC
    obtain ⟨v, rfl, hO⟩ := hcut
    obtain ⟨ms0, hms0⟩ : ∃ ms0, ms0 = s.mPut ++ s.mGive ++ s.mShut ++ s.mLeave ++ s.mAns ++ (if s.shut = false then [(⟨6, -2, 0⟩ : Mv)] else []) ++ (if s.out = 0 then [⟨6, -1, 0⟩] else []) := ⟨_, rfl⟩
    have hMS : s.moves = ms0 ++ eachTo true 6 notLeft (fun _ => 0) s.ws s.ws.length := by
      rw [HM.out, hms0]
      simp only [List.append_assoc]
    have hms1 : ms0.length ≤ 300 := by
      have hql : (if s.shut = false then [(⟨6, -2, 0⟩ : Mv)] else []).length ≤ 1 := by split <;> simp
      have hqm : (if s.out = 0 then [(⟨6, -1, 0⟩ : Mv)] else []).length ≤ 1 := by split <;> simp
      rw [hms0]
      simp only [List.length_append]
      omega
    rw [← hms0] at hO
    have HMS := Lib.hid hMS
    clear hms0 hMS
    go_upto_region 31 with (fail)
    go_upto_region 32 with (fail)
    go_loopg [3, 8] s.ws.length (fun g vv ii wr => ∃ (k : Nat) (v : Value), k ≤ s.ws.length ∧ g = s.ws.length - k ∧ ii = .int .i64 k ∧ vv = v ∧ OutN w wr v (ms0 ++ eachTo true 6 notLeft (fun _ => 0) s.ws k))
    case atStart => exact ⟨0, _, by omega, by omega, rfl, rfl, by rw [eachTo_zero, List.append_nil]; exact hO⟩
    case round =>
      clear hO
      obtain ⟨k, v, hk, hgk, rfl, rfl, hO⟩ := hrel
      have hC := HH.out.chg0 hO.chg
      obtain ⟨c0, c1, c2, c3, c4, c5, c6, c7, c8, c9, c10, c11, c12⟩ := hC.cells
      rw [HV.out] at c6
      have hbl2 := World.block_lt_of_cell? _ _ c0
      by_cases hlt : k < s.ws.length
      · skip
        have hlt' : k < s.ws.length := hlt
        obtain ⟨wg, wo, wcc, hwe, _, y, hy, hw0, hw1⟩ := hC.worker hlt'
        rw [HV.out] at hwe
        simp only [Value.slice.injEq, true_and] at hwe
        obtain ⟨rfl, rfl⟩ := hwe
        have hwgl := World.block_lt_of_cell? _ _ hw0
        have h3 := worker_three hy (HH.out.2.2.2.2.2.1.st _ (List.getElem_mem hlt')).1 (HZ.out _ (List.getElem_mem hlt'))
        clear hy
        have hel : (eachTo true 6 notLeft (fun _ => 0) s.ws k).length ≤ s.ws.length := eachTo_length
        have hE3 : ((notLeft s.ws[k] = true) ∧ y.2 = false) ∨ (notLeft s.ws[k] = false ∧ y.2 = true) := by
          rcases h3 with ⟨i1, i2, i3, rfl⟩ | ⟨i1, i2, i3, rfl⟩ | ⟨i1, i2, i3, hyg⟩
          · exact .inl ⟨i3, rfl⟩
          · exact .inl ⟨i3, rfl⟩
          · exact .inr ⟨i3, hyg⟩
        clear h3
        rcases hE3 with ⟨i3, hyg⟩ | ⟨i3, hyg⟩
        · rw [hyg] at hw1
          have hE : eachTo true 6 notLeft (fun _ => 0) s.ws (k + 1) = eachTo true 6 notLeft (fun _ => 0) s.ws k ++ [⟨6, k, 0⟩] := eachTo_add hlt' rfl i3
          have HE := Lib.hid (hE)
          obtain ⟨ov, ow, hrun, hO2⟩ := hO.app (by simp only [List.length_append]; omega) ⟨6, k, 0⟩
          have hC2 := HH.out.chg0 hO2.chg
          obtain ⟨e0, e1, e2, e3, e4, e5, e6, e7, e8, e9, e10, e11, e12⟩ := hC2.cells
          rw [HV.out] at e6
          have hbl3 := World.block_lt_of_cell? _ _ e0
          have HO2 := Lib.hid hO2
          clear hO hO2 hC2
          go_wp2
          go_roundg (s.ws.length - (k + 1))
          case measure => omega
          case rel => exact ⟨k + 1, _, by omega, rfl, by go_num, rfl, by rw [HE.out, ← List.append_assoc]; exact HO2.out⟩
        · rw [hyg] at hw1
          go_wp2
          go_roundg (s.ws.length - (k + 1))
          case measure => omega
          case rel => exact ⟨k + 1, _, by omega, rfl, by go_num, rfl, by rw [eachTo_skip hlt' i3]; exact hO⟩
      · obtain rfl : k = s.ws.length := by omega
        go_wp2
        go_ret
        refine ⟨_, rfl, ?_, hO.chg, hO.new⟩
        rw [HMS.out]
        exact hO.row
end Go.Proofs.Ytfmdghijbkddpaa

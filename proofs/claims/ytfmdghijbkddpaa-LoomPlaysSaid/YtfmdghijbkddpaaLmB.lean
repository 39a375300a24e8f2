/- The loom: given, Moves. -/
import Derived.Test.YtfmdghijbkddpaaLmA
import Derived.Deep.DeepCutAuto
namespace Go.Proofs.Ytfmdghijbkddpaa
open Go.RowKit
set_option linter.unusedVariables false
set_option linter.unusedSimpArgs false

theorem LmIs.cells {w : World} {b : Nat} {s : LS} {q : LV} (h : LmIs w b s q) :
    w.cell? ⟨b, 0, none⟩ = some (.int .i64 s.jobs) ∧ w.cell? ⟨b, 1, none⟩ = some (.int .i64 s.room) ∧ w.cell? ⟨b, 2, none⟩ = some (.int .i64 s.next) ∧ w.cell? ⟨b, 3, none⟩ = some q.cv ∧ w.cell? ⟨b, 4, none⟩ = some (.bool s.shut) ∧ w.cell? ⟨b, 5, none⟩ = some q.wv ∧
    w.cell? ⟨b, 6, none⟩ = some q.av ∧ w.cell? ⟨b, 7, none⟩ = some (.int .i64 s.out) ∧ w.cell? ⟨b, 8, none⟩ = some (.bool s.canc) ∧ w.cell? ⟨b, 9, none⟩ = some (.int .i64 s.top) ∧ w.cell? ⟨b, 10, none⟩ = some (.int .i64 s.made) :=
  ⟨blk_cell h.1 0 rfl, blk_cell h.1 1 rfl, blk_cell h.1 2 rfl, blk_cell h.1 3 rfl, blk_cell h.1 4 rfl, blk_cell h.1 5 rfl, blk_cell h.1 6 rfl, blk_cell h.1 7 rfl, blk_cell h.1 8 rfl, blk_cell h.1 9 rfl, blk_cell h.1 10 rfl⟩

theorem given_calls (w : World) (b : Nat) (s : LS) (q : LV) (h : LmIs w b s q) : Calls Try.prog 38 #[.pointer (some ⟨b, 0, none⟩)] w fun e w' => e = .returned (.int .i64 s.given) ∧ Chg [] w w' := by
  obtain ⟨c0, c1, c2, c3, c4, _⟩ := h.cells
  obtain ⟨ca, ccap, hcv, _⟩ := h.2.1.slice
  have hH := Lib.hid h
  rw [hcv] at c3
  have hcl := Lib.hid h.2.2.2.2.2.ch.2
  have hd0 : Hid (LS.given s = if s.room = 0 ∧ s.shut = false ∧ s.next < s.jobs then (s.next : Int) else match s.ch with | j :: _ => j | [] => -1) := rfl
  by_cases hA : s.room = 0 ∧ s.shut = false ∧ s.next < s.jobs
  · obtain ⟨h1, h2, h3⟩ := hA
    have e1 : decide (s.next < s.jobs) = true := by simp [h3]
    have HA : Hid (s.given = s.next) := by
      have := hd0.out
      rw [if_pos ⟨h1, h2, h3⟩] at this
      exact this
    clear hd0
    have H1 := Lib.hid h1
    have d1 : ((s.room : Int) == 0) = true := by simp [h1]
    rw [h2] at c4
    clear h hcv h1 h2 h3
    go_enter Try.func38, Try.ntmps38
    go_wp2
    go_quiet (fail)
    go_wp2
    go_ret
    exact ⟨by rw [HA.out]; rfl, (Chg.refl _ _).drewN _⟩
  · have hG : s.given = match s.ch with | j :: _ => (j : Int) | [] => -1 := by
      have := hd0.out
      rw [if_neg hA] at this
      exact this
    have HG := Lib.hid hG
    have hl : s.ch = [] ∧ s.ch.length = 0 ∧ s.given = -1 ∨ ∃ j g o : Nat, 0 < s.ch.length ∧ s.given = j ∧ w.cell? ⟨g, o, none⟩ = some (.int .i64 j) ∧ ca = some ⟨g, o, none⟩ := by
      cases hc : s.ch with
      | nil => left; rw [HG.out, hc]; exact ⟨rfl, rfl, rfl⟩
      | cons j l =>
        right
        have hr := hH.out.2.1
        obtain ⟨g, o, cap, he, _⟩ := hr.ptr (by rw [hc]; simp)
        rw [he] at hr
        have := hr.cell (j := 0) (u := .int .i64 j) (by rw [hc]; rfl)
        rw [hcv] at he
        simp only [Value.slice.injEq] at he
        exact ⟨j, g, o, by simp, by rw [HG.out, hc], this, he.1⟩
    have hP : (s.room ≠ 0) ∨ (s.room = 0 ∧ s.shut = true) ∨ (s.room = 0 ∧ s.shut = false ∧ ¬ s.next < s.jobs) := by
      by_cases h1 : s.room = 0
      · cases h2 : s.shut with
        | true => exact .inr (.inl ⟨h1, rfl⟩)
        | false => exact .inr (.inr ⟨h1, rfl, fun h3 => hA ⟨h1, h2, h3⟩⟩)
      · exact .inl h1
    clear hA hd0 h hG
    have HC := Lib.hid hcv
    clear hcv
    rcases hP with h1 | ⟨h1, h2⟩ | ⟨h1, h2, h3⟩
    · have d1 : ((s.room : Int) == 0) = false := by simp [h1]
      have H1 := Lib.hid h1
      clear h1
      try clear h2
      try clear h3
      rcases hl with ⟨l0, l1, l2⟩ | ⟨j, g, o, l1, l2, l3, l4⟩
      · rw [l1] at c3
        have L2 := Lib.hid l2
        clear l0 l1 l2
        go_enter Try.func38, Try.ntmps38
        go_wp2
        go_quiet (fail)
        go_wp2
        go_ret
        exact ⟨by rw [L2.out]; rfl, (Chg.refl _ _).drewN _⟩
      · have L2 := Lib.hid l2
        subst l4
        clear l2
        have d0 : decide (0 < s.ch.length) = true := by simp; omega
        go_enter Try.func38, Try.ntmps38
        go_wp2
        go_quiet (fail)
        go_wp2
        go_ret
        exact ⟨by rw [L2.out]; rfl, (Chg.refl _ _).drewN _⟩
    · have d1 : ((s.room : Int) == 0) = true := by simp [h1]
      rw [h2] at c4
      have H1 := Lib.hid h1
      clear h1
      try clear h2
      try clear h3
      rcases hl with ⟨l0, l1, l2⟩ | ⟨j, g, o, l1, l2, l3, l4⟩
      · rw [l1] at c3
        have L2 := Lib.hid l2
        clear l0 l1 l2
        go_enter Try.func38, Try.ntmps38
        go_wp2
        go_quiet (fail)
        go_wp2
        go_ret
        exact ⟨by rw [L2.out]; rfl, (Chg.refl _ _).drewN _⟩
      · have L2 := Lib.hid l2
        subst l4
        clear l2
        have d0 : decide (0 < s.ch.length) = true := by simp; omega
        go_enter Try.func38, Try.ntmps38
        go_wp2
        go_quiet (fail)
        go_wp2
        go_ret
        exact ⟨by rw [L2.out]; rfl, (Chg.refl _ _).drewN _⟩
    · have d1 : ((s.room : Int) == 0) = true := by simp [h1]
      have d3 : decide (s.next < s.jobs) = false := by simp [h3]
      rw [h2] at c4
      have H1 := Lib.hid h1
      clear h1
      try clear h2
      try clear h3
      rcases hl with ⟨l0, l1, l2⟩ | ⟨j, g, o, l1, l2, l3, l4⟩
      · rw [l1] at c3
        have L2 := Lib.hid l2
        clear l0 l1 l2
        go_enter Try.func38, Try.ntmps38
        go_wp2
        go_quiet (fail)
        go_wp2
        go_ret
        exact ⟨by rw [L2.out]; rfl, (Chg.refl _ _).drewN _⟩
      · have L2 := Lib.hid l2
        subst l4
        clear l2
        have d0 : decide (0 < s.ch.length) = true := by simp; omega
        go_enter Try.func38, Try.ntmps38
        go_wp2
        go_quiet (fail)
        go_wp2
        go_ret
        exact ⟨by rw [L2.out]; rfl, (Chg.refl _ _).drewN _⟩


/-- The list so far, on its way from the world wb. -/
def MI (wb : World) (lb ob b : Nat) (s : LS) (q : LV) (ms : List Mv) (w : World) : Prop :=
  ∃ v', OutIs w ob v' ms ∧ Chg [ob] wb w ∧ (∀ g, v'.ownBlock = some g → wb.heap.size ≤ g) ∧ LmIs w b s q ∧ w.cell? ⟨lb, 0, none⟩ = some (.pointer (some ⟨b, 0, none⟩)) ∧
    lb < wb.heap.size ∧ ob < wb.heap.size ∧ lb ≠ ob ∧ ob ∉ q.foot b ∧ (∀ k ∈ q.foot b, k < wb.heap.size)

theorem MI.chg {wb w w' : World} {lb ob b : Nat} {s : LS} {q : LV} {ms : List Mv} (h : MI wb lb ob b s q ms w) (hc : Chg [] w w') : MI wb lb ob b s q ms w' := by
  obtain ⟨v', h1, h2, h3, h4, h5, h6, h7, h8, h9, h10⟩ := h
  refine ⟨v', ⟨hc.at h1.1 (by simp), h1.2.1.chg0 hc, h1.2.2⟩, h2.nil_trans hc, h3, h4.chg0 hc, ?_, h6, h7, h8, h9, h10⟩
  rw [hc.cell (p := ⟨lb, 0, none⟩) (World.block_lt_of_cell? _ _ h5) (by simp)]
  exact h5
theorem MI.add {wb w w' : World} {lb ob b : Nat} {s : LS} {q : LV} {ms add : List Mv} {v' : Value} (h1 : OutIs w ob v' ms) (h2 : Chg [ob] wb w) (h3 : ∀ g, v'.ownBlock = some g → wb.heap.size ≤ g) (h4 : LmIs w b s q) (h5 : w.cell? ⟨lb, 0, none⟩ = some (.pointer (some ⟨b, 0, none⟩)))
    (h6 : lb < wb.heap.size) (h7 : ob < wb.heap.size) (h8 : lb ≠ ob) (h9 : ob ∉ q.foot b) (h10 : ∀ k ∈ q.foot b, k < wb.heap.size) (hE : EachI w ob v' ms add w') : MI wb lb ob b s q (ms ++ add) w' := by
  obtain ⟨v2, k1, k2, k3⟩ := hE
  have hF : ∀ k, k < wb.heap.size → k ≠ ob → k ∉ ob :: v'.ownBlock.toList := by
    intro k hk hne hm
    simp only [List.mem_cons, Option.mem_toList] at hm
    rcases hm with e | e
    · exact hne e
    · have := h3 k e; omega
  refine ⟨v2, k1, h2.trans k2 ?_, ?_, h4.chg k2 ?_, ?_, h6, h7, h8, h9, h10⟩
  · intro g hg
    simp only [List.mem_cons, Option.mem_toList] at hg
    rcases hg with e | e
    · left; simp [e]
    · right; exact h3 g e
  · intro g hg
    rcases k3 g hg with e | e
    · exact h3 g e
    · have := h2.size; omega
  · intro k hk
    exact hF k (h10 k hk) (fun e => h9 (e ▸ hk))
  · rw [k2.cell (p := ⟨lb, 0, none⟩) (World.block_lt_of_cell? _ _ h5) (hF lb h6 h8)]
    exact h5
theorem MI.foot {wb w : World} {lb ob b : Nat} {q : LV} {v' : Value} (h2 : Chg [ob] wb w) (h3 : ∀ g, v'.ownBlock = some g → wb.heap.size ≤ g) (h6 : lb < wb.heap.size) (h8 : lb ≠ ob) (h9 : ob ∉ q.foot b) (h10 : ∀ k ∈ q.foot b, k < wb.heap.size) : ∀ k ∈ lb :: q.foot b, k ∉ ob :: v'.ownBlock.toList := by
  intro k hk hm
  have hk' : k < wb.heap.size ∧ k ≠ ob := by
    simp only [List.mem_cons] at hk
    rcases hk with rfl | hk
    · exact ⟨h6, h8⟩
    · exact ⟨h10 k hk, fun e => h9 (e ▸ hk)⟩
  simp only [List.mem_cons, Option.mem_toList] at hm
  rcases hm with e | e
  · exact hk'.2 e
  · have := h3 k e; omega


theorem mlen (s : LS) (h : s.ws.length ≤ 64) : s.mPut.length ≤ 1 ∧ s.mGive.length ≤ 64 ∧ s.mShut.length ≤ 1 ∧ s.mLeave.length ≤ 64 ∧ s.mAns.length ≤ 64 := by
  refine ⟨?_, ?_, ?_, ?_, ?_⟩
  · unfold LS.mPut; split <;> simp
  · unfold LS.mGive; split; exact Nat.le_trans (eachOf_length _ _ _ _ _) h; simp
  · unfold LS.mShut; split <;> simp
  · unfold LS.mLeave; split; exact Nat.le_trans (eachOf_length _ _ _ _ _) h; simp
  · unfold LS.mAns; split; exact Nat.le_trans (eachOf_length _ _ _ _ _) h; simp

set_option maxRecDepth 100000 in
set_option maxHeartbeats 4000000 in
theorem moves_calls (w : World) (b : Nat) (s : LS) (q : LV) (h : LmIs w b s q) : Calls Try.prog 13 #[.pointer (some ⟨b, 0, none⟩)] w fun e w' => ∃ v, e = .returned v ∧ RowIs w' 31 3 v s.moves.length (mCells s.moves) ∧ Chg [] w w' ∧ ∀ g, v.ownBlock = some g → w.heap.size ≤ g := by
  have hb := World.block_lt_of_cell? _ _ h.cells.1
  obtain ⟨m1, m2, m3, m4, m5⟩ := mlen s h.2.2.2.2.2.ws
  go_enter Try.func13, Try.ntmps13
  go_upto_region 5 with (fail)
  have hc0 : Chg [] w ((w.alloc (.cells #[.pointer (some ⟨b, 0, none⟩)] 23)).alloc (.cells #[.slice none 0 0] 28)) := ((Chg.refl _ _).alloc _).alloc _
  have hM : MI ((w.alloc (.cells #[.pointer (some ⟨b, 0, none⟩)] 23)).alloc (.cells #[.slice none 0 0] 28)) w.heap.size (w.heap.size + 1) b s q [] ((w.alloc (.cells #[.pointer (some ⟨b, 0, none⟩)] 23)).alloc (.cells #[.slice none 0 0] 28)) := by
    refine ⟨.slice none 0 0, ⟨?_, RowIs.nil _ _ _, by simp [Value.ownBlock]⟩, Chg.refl _ _, by simp [Value.ownBlock], h.chg0 hc0, ?_, by simp; omega, by simp, by omega, ?_, ?_⟩
    · have := blk_new (w.alloc (.cells #[.pointer (some ⟨b, 0, none⟩)] 23)) (.cells #[.slice none 0 0] 28)
      rw [World.size_alloc] at this
      exact this
    · rw [World.cell?_alloc_lt _ _ _ (by simp)]
      exact blk_cell (blk_new w _) 0 rfl
    · intro hm
      have := h.lt _ hm
      omega
    · intro k hk
      have := h.lt k hk
      simp; omega
  have hwb : w.heap.size + 2 ≤ ((w.alloc (.cells #[.pointer (some ⟨b, 0, none⟩)] 23)).alloc (.cells #[.slice none 0 0] 28)).heap.size := by simp
  generalize hWb : World.alloc (World.alloc w _) _ = wb at hM hc0 hwb ⊢
  generalize hlb : w.heap.size = lb at hM ⊢
  generalize hob : lb + 1 = ob at hM ⊢
  have HLB := Lib.hid hlb
  have HOB := Lib.hid hob
  clear hWb hlb hob
  have hb := Lib.hid h
  clear h
  go_cut [36] (fun c wx => ((c = .bool true ∧ (s.shut = false ∧ s.next < s.jobs ∧ s.ch.length < s.room)) ∨ (c = .bool false ∧ ¬ (s.shut = false ∧ s.next < s.jobs ∧ s.ch.length < s.room))) ∧ MI wb lb ob b s q [] wx)
  case first =>
    have hM' := hM
    obtain ⟨v', h1, h2, h3, h4, h5, h6, h7, h8, h9, h10⟩ := hM'
    obtain ⟨c0, c1, c2, c3, c4, c5, c6, c7, c8, _⟩ := h4.cells
    obtain ⟨ca, ccap, hcv, _⟩ := h4.2.1.slice
    rw [hcv] at c3
    have h1c := blk_cell h1.1 0 rfl
    have h1l := blk_lt h1.1
    have HCV := Lib.hid hcv
    have hM := Lib.hid hM
    clear hcv
    cases e1 : s.shut with
    | true =>
      rw [e1] at c4
      go_quiet (fail)
      go_wp2
      go_meet
      exact ⟨.inr ⟨rfl, fun hx => by rw [e1] at hx; cases hx.1⟩, hM.out.chg ((Chg.refl _ _).drewN _)⟩
    | false =>
      rw [e1] at c4
      by_cases e2 : s.next < s.jobs
      · have d2 : decide (s.next < s.jobs) = true := by simp [e2]
        by_cases e3 : s.ch.length < s.room
        · have d3 : decide (s.ch.length < s.room) = true := by simp [e3]
          go_quiet (fail)
          go_wp2
          go_meet
          exact ⟨.inl ⟨rfl, e1, e2, e3⟩, hM.out.chg ((Chg.refl _ _).drewN _)⟩
        · have d3 : decide (s.ch.length < s.room) = false := by simp [e3]
          go_quiet (fail)
          go_wp2
          go_meet
          exact ⟨.inr ⟨rfl, fun hx => e3 hx.2.2⟩, hM.out.chg ((Chg.refl _ _).drewN _)⟩
      · have d2 : decide (s.next < s.jobs) = false := by simp [e2]
        go_quiet (fail)
        go_wp2
        go_meet
        exact ⟨.inr ⟨rfl, fun hx => e2 hx.2.1⟩, hM.out.chg ((Chg.refl _ _).drewN _)⟩
  case rest =>
  obtain ⟨hc, hM⟩ := hcut
  go_upto_if 36 with (fail)
  go_cut [] (fun wx => MI wb lb ob b s q s.mPut wx)
  case first =>
    rcases hc with ⟨rfl, hP⟩ | ⟨rfl, hP⟩
    · have hR : s.mPut = [⟨1, 0, s.next⟩] := by unfold LS.mPut; rw [if_pos hP]
      have HR := Lib.hid hR
      have HP := Lib.hid hP
      clear hR hP
      have hM' := hM
      obtain ⟨v', h1, h2, h3, h4, h5, h6, h7, h8, h9, h10⟩ := hM'
      obtain ⟨c0, c1, c2, c3, c4, c5, c6, c7, c8, _⟩ := h4.cells
      obtain ⟨ca, ccap, hcv, _⟩ := h4.2.1.slice
      rw [hcv] at c3
      have h1c := blk_cell h1.1 0 rfl
      have h1l := blk_lt h1.1
      have HCV := Lib.hid hcv
      have hM := Lib.hid hM
      clear hcv
      have hW0 : Chg [] wc (wc.alloc (.cells #[.int .i64 1, .int .i64 0, .int .i64 s.next] 31)).drew := ((Chg.refl _ _).alloc _).drew
      have hM0 : (wc.alloc (.cells #[.int .i64 1, .int .i64 0, .int .i64 s.next] 31)).drew.heap[wc.heap.size]? = some (.cells #[.int .i64 1, .int .i64 0, .int .i64 s.next] 31 (0, 0)) := blk_drew (blk_new wc _)
      have hout0 : OutIs (wc.alloc (.cells #[.int .i64 1, .int .i64 0, .int .i64 s.next] 31)).drew ob v' ([] : List Mv) := ⟨hW0.at h1.1 (by simp), h1.2.1.chg0 hW0, h1.2.2⟩
      obtain ⟨v2, w6, hap, hrow2, hch2, hat2, ⟨a2, cap2, hv2⟩, hobc, hobf, hob6⟩ := hout0.app (by simp only [List.length_append, List.length_nil]; omega) ⟨1, 0, s.next⟩ wc.heap.size hM0
      have hE := EachI.step (w := wc) (add := []) (v := v') (by rw [List.append_nil]; exact h1) (Chg.refl _ _) (fun g hg => .inl hg) h1l hW0 (by rw [List.append_nil]; exact hrow2) hch2 hat2 hob6
      generalize List.length ([] : List Mv) + 1 = n2 at hv2
      rw [hv2] at hE
      have hE2 := MI.add h1 h2 h3 h4 h5 h6 h7 h8 h9 h10 hE
      rw [List.nil_append] at hE2
      have HE := Lib.hid hE2
      simp only [hv2] at hap
      clear hv2 hE hE2 hrow2 hch2 hat2 hob6 hout0 hM0 hW0 h1 h2 h3
      go_wp2
      go_region
      all_goals
        go_wp2
        go_meet
        rw [HR.out]
        exact HE.out
    · go_wp2
      go_meet
      unfold LS.mPut
      rw [if_neg hP]
      exact hM
  case rest =>
  have hM := hcut
  clear hcut
  go_upto_region 7 with (fail)
  have hM' := hM
  obtain ⟨v', h1, h2, h3, h4, h5, h6, h7, h8, h9, h10⟩ := hM'
  obtain ⟨c0, c1, c2, c3, c4, c5, c6, c7, c8, _⟩ := h4.cells
  obtain ⟨ca, ccap, hcv, _⟩ := h4.2.1.slice
  rw [hcv] at c3
  have h1c := blk_cell h1.1 0 rfl
  have h1l := blk_lt h1.1
  have HCV := Lib.hid hcv
  have hM := Lib.hid hM
  clear hcv
  go_upto_if 48 with (go_at_call 38; refine (given_calls _ b s q h4).mono ?_; rintro e w1 ⟨rfl, hc1⟩)
  have hc := hc1.alloc (.cells #[.int .i64 s.given] 3)
  have hgb : (w1.alloc (.cells #[.int .i64 s.given] 3)).cell? ⟨w1.heap.size, 0, none⟩ = some (.int .i64 s.given) := blk_cell (blk_new w1 _) 0 rfl
  replace h5 : (w1.alloc (.cells #[.int .i64 s.given] 3)).cell? ⟨lb, 0, none⟩ = some (.pointer (some ⟨b, 0, none⟩)) := by
    rw [hc.cell (p := ⟨lb, 0, none⟩) (World.block_lt_of_cell? _ _ h5) (by simp)]
    exact h5
  have hgF : w1.heap.size ∉ ob :: v'.ownBlock.toList := by
    have hs := hc1.size
    intro hm
    simp only [List.mem_cons, Option.mem_toList] at hm
    rcases hm with e | e
    · omega
    · have := h1.2.1.lt _ e
      omega
  replace h1 : OutIs (w1.alloc (.cells #[.int .i64 s.given] 3)) ob v' s.mPut := ⟨hc.at h1.1 (by simp), h1.2.1.chg0 hc, h1.2.2⟩
  replace h2 := h2.nil_trans hc
  replace h4 := h4.chg0 hc
  have hM2 : MI wb lb ob b s q s.mPut (w1.alloc (.cells #[.int .i64 s.given] 3)) := ⟨v', h1, h2, h3, h4, h5, h6, h7, h8, h9, h10⟩
  clear c0 c1 c2 c3 c4 c5 c6 c7 c8 h1c h1l hM hc hc1
  generalize w1.heap.size = gb at *
  generalize World.alloc w1 _ = w2 at *
  have HM2 := Lib.hid hM2
  clear hM2
  go_cut [] (fun wx => MI wb lb ob b s q (s.mPut ++ s.mGive) wx)
  case first =>
    by_cases hg : 0 ≤ s.given
    · have d1 : decide (0 ≤ s.given) = true := by simp [hg]
      have hR : s.mGive = eachOf 2 isIdle (fun _ => s.given) s.ws 0 := by unfold LS.mGive; rw [if_pos hg]
      have HR := Lib.hid hR
      have hE := each_give w2 b lb ob s q v' s.mPut gb s.given hgb hgF h4 h5 h1 (by omega) (MI.foot h2 h3 h6 h8 h9 h10)
      clear hR
      go_wp2_with (go_at_call 35; refine hE.mono ?_; rintro e w2 ⟨rfl, hE2⟩)
      go_meet
      rw [HR.out]
      exact MI.add h1 h2 h3 h4 h5 h6 h7 h8 h9 h10 hE2
    · have d1 : decide (0 ≤ s.given) = false := by simp; omega
      have hg2 : s.given < 0 := by omega
      have hR : s.mGive = [] := by unfold LS.mGive; rw [if_neg hg]
      go_wp2
      go_meet
      rw [hR, List.append_nil]
      exact HM2.out
  case rest =>
  clear hgb hgF h1 h2 h3 h4 h5 h6 h7 h8 h9 h10 HM2 HCV
  clear v'
  replace hM := hcut
  clear hcut
  go_upto_region 10 with (fail)
  go_cut [68] (fun c wx => ((c = .bool true ∧ (s.shut = false ∧ s.next = s.jobs)) ∨ (c = .bool false ∧ ¬ (s.shut = false ∧ s.next = s.jobs))) ∧ MI wb lb ob b s q (s.mPut ++ s.mGive) wx)
  case first =>
    have hM' := hM
    obtain ⟨v', h1, h2, h3, h4, h5, h6, h7, h8, h9, h10⟩ := hM'
    obtain ⟨c0, c1, c2, c3, c4, c5, c6, c7, c8, _⟩ := h4.cells
    obtain ⟨ca, ccap, hcv, _⟩ := h4.2.1.slice
    rw [hcv] at c3
    have h1c := blk_cell h1.1 0 rfl
    have h1l := blk_lt h1.1
    have HCV := Lib.hid hcv
    have hM := Lib.hid hM
    clear hcv
    cases e1 : s.shut with
    | true =>
      rw [e1] at c4
      go_quiet (fail)
      go_wp2
      go_meet
      exact ⟨.inr ⟨rfl, fun hx => by rw [e1] at hx; cases hx.1⟩, hM.out.chg ((Chg.refl _ _).drewN _)⟩
    | false =>
      rw [e1] at c4
      by_cases e2 : s.next = s.jobs
      · have E2 := Lib.hid e2
        have d2 : decide (s.next = s.jobs) = true := by simp [e2]
        have d3 : ((s.next : Int) == s.jobs) = true := by simp [e2]
        clear e2
        go_quiet (fail)
        go_wp2
        go_meet
        exact ⟨.inl ⟨rfl, e1, E2.out⟩, hM.out.chg ((Chg.refl _ _).drewN _)⟩
      · have d2 : decide (s.next = s.jobs) = false := by simp [e2]
        have d3 : ((s.next : Int) == s.jobs) = false := by simp; omega
        go_quiet (fail)
        go_wp2
        go_meet
        exact ⟨.inr ⟨rfl, fun hx => e2 hx.2⟩, hM.out.chg ((Chg.refl _ _).drewN _)⟩
  case rest =>
  clear hM hc
  obtain ⟨hc, hM⟩ := hcut
  go_upto_if 68 with (fail)
  go_cut [] (fun wx => MI wb lb ob b s q (s.mPut ++ s.mGive ++ s.mShut) wx)
  case first =>
    rcases hc with ⟨rfl, hP⟩ | ⟨rfl, hP⟩
    · have hR : s.mShut = [⟨3, 0, 0⟩] := by unfold LS.mShut; rw [if_pos hP]
      have HR := Lib.hid hR
      have HP := Lib.hid hP
      clear hR hP
      have hM' := hM
      obtain ⟨v', h1, h2, h3, h4, h5, h6, h7, h8, h9, h10⟩ := hM'
      obtain ⟨c0, c1, c2, c3, c4, c5, c6, c7, c8, _⟩ := h4.cells
      obtain ⟨ca, ccap, hcv, _⟩ := h4.2.1.slice
      rw [hcv] at c3
      have h1c := blk_cell h1.1 0 rfl
      have h1l := blk_lt h1.1
      have HCV := Lib.hid hcv
      have hM := Lib.hid hM
      clear hcv
      have hW0 : Chg [] wc (wc.alloc (.cells #[.int .i64 3, .int .i64 0, .int .i64 0] 31)) := ((Chg.refl _ _).alloc _)
      have hM0 : (wc.alloc (.cells #[.int .i64 3, .int .i64 0, .int .i64 0] 31)).heap[wc.heap.size]? = some (.cells #[.int .i64 3, .int .i64 0, .int .i64 0] 31 (0, 0)) := (blk_new wc _)
      have hout0 : OutIs (wc.alloc (.cells #[.int .i64 3, .int .i64 0, .int .i64 0] 31)) ob v' (s.mPut ++ s.mGive) := ⟨hW0.at h1.1 (by simp), h1.2.1.chg0 hW0, h1.2.2⟩
      obtain ⟨v2, w6, hap, hrow2, hch2, hat2, ⟨a2, cap2, hv2⟩, hobc, hobf, hob6⟩ := hout0.app (by simp only [List.length_append, List.length_nil]; omega) ⟨3, 0, 0⟩ wc.heap.size hM0
      have hE := EachI.step (w := wc) (add := []) (v := v') (by rw [List.append_nil]; exact h1) (Chg.refl _ _) (fun g hg => .inl hg) h1l hW0 (by rw [List.append_nil]; exact hrow2) hch2 hat2 hob6
      generalize List.length (s.mPut ++ s.mGive) + 1 = n2 at hv2
      rw [hv2] at hE
      have hE2 := MI.add h1 h2 h3 h4 h5 h6 h7 h8 h9 h10 hE
      rw [List.nil_append] at hE2
      have HE := Lib.hid hE2
      simp only [hv2] at hap
      clear hv2 hE hE2 hrow2 hch2 hat2 hob6 hout0 hM0 hW0 h1 h2 h3
      go_wp2
      skip
      all_goals
        go_wp2
        go_meet
        rw [HR.out]
        exact HE.out
    · have hR : s.mShut = [] := by unfold LS.mShut; rw [if_neg hP]
      go_wp2
      go_meet
      rw [hR, List.append_nil]
      exact hM
  case rest =>
  clear hM
  have hM := hcut
  clear hcut hc
  go_upto_region 12 with (fail)
  go_cut [84] (fun c wx => ((c = .bool true ∧ (s.shut = true ∧ s.ch = [])) ∨ (c = .bool false ∧ ¬ (s.shut = true ∧ s.ch = []))) ∧ MI wb lb ob b s q (s.mPut ++ s.mGive ++ s.mShut) wx)
  case first =>
    have hM' := hM
    obtain ⟨v', h1, h2, h3, h4, h5, h6, h7, h8, h9, h10⟩ := hM'
    obtain ⟨c0, c1, c2, c3, c4, c5, c6, c7, c8, _⟩ := h4.cells
    obtain ⟨ca, ccap, hcv, _⟩ := h4.2.1.slice
    rw [hcv] at c3
    have h1c := blk_cell h1.1 0 rfl
    have h1l := blk_lt h1.1
    have HCV := Lib.hid hcv
    have hM := Lib.hid hM
    clear hcv
    cases e1 : s.shut with
    | false =>
      rw [e1] at c4
      go_wp2
      go_meet
      exact ⟨.inr ⟨rfl, fun hx => by rw [e1] at hx; cases hx.1⟩, hM.out⟩
    | true =>
      rw [e1] at c4
      by_cases e2 : s.ch = []
      · have E2 := Lib.hid e2
        have d2 : s.ch.length = 0 := by simp [e2]
        rw [d2] at c3
        clear e2 d2
        go_wp2
        go_meet
        exact ⟨.inl ⟨rfl, e1, E2.out⟩, hM.out⟩
      · have d3 : ((s.ch.length : Int) == 0) = false := by have := List.length_pos_iff.mpr e2; simp; exact e2
        go_wp2
        go_meet
        exact ⟨.inr ⟨rfl, fun hx => e2 hx.2⟩, hM.out⟩
  case rest =>
  clear hM
  obtain ⟨hc, hM⟩ := hcut
  go_upto_if 84 with (fail)
  go_cut [] (fun wx => MI wb lb ob b s q (s.mPut ++ s.mGive ++ s.mShut ++ s.mLeave) wx)
  case first =>
    rcases hc with ⟨rfl, hP⟩ | ⟨rfl, hP⟩
    · have hR : s.mLeave = eachOf 4 isIdle (fun _ => 0) s.ws 0 := by unfold LS.mLeave; rw [if_pos hP]
      have HR := Lib.hid hR
      have HP := Lib.hid hP
      clear hP
      have hM' := hM
      obtain ⟨v', h1, h2, h3, h4, h5, h6, h7, h8, h9, h10⟩ := hM'
      obtain ⟨c0, c1, c2, c3, c4, c5, c6, c7, c8, _⟩ := h4.cells
      obtain ⟨ca, ccap, hcv, _⟩ := h4.2.1.slice
      rw [hcv] at c3
      have h1c := blk_cell h1.1 0 rfl
      have h1l := blk_lt h1.1
      have HCV := Lib.hid hcv
      have hM := Lib.hid hM
      clear hcv
      have hE := each_leave wc b lb ob s q v' (s.mPut ++ s.mGive ++ s.mShut) h4 h5 h1 (by simp only [List.length_append]; omega) (MI.foot h2 h3 h6 h8 h9 h10)
      clear hR
      go_wp2_with (go_at_call 35; refine hE.mono ?_; rintro e w2 ⟨rfl, hE2⟩)
      go_meet
      rw [HR.out]
      exact MI.add h1 h2 h3 h4 h5 h6 h7 h8 h9 h10 hE2
    · have hR : s.mLeave = [] := by unfold LS.mLeave; rw [if_neg hP]
      go_wp2
      go_meet
      rw [hR, List.append_nil]
      exact hM
  case rest =>
  clear hM
  have hM := hcut
  clear hcut hc
  have hM' := hM
  obtain ⟨v', h1, h2, h3, h4, h5, h6, h7, h8, h9, h10⟩ := hM'
  obtain ⟨c0, c1, c2, c3, c4, c5, c6, c7, c8, _⟩ := h4.cells
  obtain ⟨ca, ccap, hcv, _⟩ := h4.2.1.slice
  rw [hcv] at c3
  have h1c := blk_cell h1.1 0 rfl
  have h1l := blk_lt h1.1
  have HCV := Lib.hid hcv
  have hM := Lib.hid hM
  clear hcv
  go_upto_if 93 with (fail)
  go_cut [] (fun wx => MI wb lb ob b s q (s.mPut ++ s.mGive ++ s.mShut ++ s.mLeave ++ s.mAns) wx)
  case first =>
    by_cases hP : s.out = 0
    · have hR : s.mAns = eachOf 5 isBusy (fun x => x.2) s.ws 0 := by unfold LS.mAns; rw [if_pos hP]
      have HR := Lib.hid hR
      have d1 : ((s.out : Int) == 0) = true := by simp [hP]
      have d2 : decide (s.out = 0) = true := by simp [hP]
      have hE := each_ans wc b lb ob s q v' (s.mPut ++ s.mGive ++ s.mShut ++ s.mLeave) h4 h5 h1 (by simp only [List.length_append]; omega) (MI.foot h2 h3 h6 h8 h9 h10)
      clear hR
      go_wp2_with (go_at_call 35; refine hE.mono ?_; rintro e w2 ⟨rfl, hE2⟩)
      go_meet
      rw [HR.out]
      exact MI.add h1 h2 h3 h4 h5 h6 h7 h8 h9 h10 hE2
    · have hR : s.mAns = [] := by unfold LS.mAns; rw [if_neg hP]
      have hM := hM.out
      go_wp2
      go_meet
      rw [hR, List.append_nil]
      exact hM
  case rest =>
  clear h1 h2 h3 h4 h5 h6 h7 h8 h9 h10 c0 c1 c2 c3 c4 c5 c6 c7 c8 h1c h1l HCV hM
  have hM := hcut
  clear hcut
  have hM' := hM
  obtain ⟨v', h1, h2, h3, h4, h5, h6, h7, h8, h9, h10⟩ := hM'
  obtain ⟨c0, c1, c2, c3, c4, c5, c6, c7, c8, _⟩ := h4.cells
  obtain ⟨ca, ccap, hcv, _⟩ := h4.2.1.slice
  rw [hcv] at c3
  have h1c := blk_cell h1.1 0 rfl
  have h1l := blk_lt h1.1
  have HCV := Lib.hid hcv
  have hM := Lib.hid hM
  clear hcv
  go_upto_if 99 with (fail)
  go_cut [] (fun wx => MI wb lb ob b s q (s.mPut ++ s.mGive ++ s.mShut ++ s.mLeave ++ s.mAns ++ s.mQuit) wx)
  case first =>
    cases e1 : s.canc with
    | false =>
      have hR : s.mQuit = [] := by unfold LS.mQuit; rw [if_neg (by rw [e1]; simp)]
      have hM := hM.out
      go_wp2
      go_meet
      rw [hR, List.append_nil]
      exact hM
    | true =>
      obtain ⟨q1, hq1⟩ : ∃ q1 : List Mv, q1 = (if s.shut = false then [⟨6, -2, 0⟩] else []) := ⟨_, rfl⟩
      obtain ⟨q2, hq2⟩ : ∃ q2 : List Mv, q2 = (if s.out = 0 then [⟨6, -1, 0⟩] else []) := ⟨_, rfl⟩
      have hR : s.mQuit = q1 ++ q2 ++ eachOf 6 notLeft (fun _ => 0) s.ws 0 := by unfold LS.mQuit; rw [if_pos (by rw [e1]), hq1, hq2]
      have l1 : q1.length ≤ 1 := by rw [hq1]; split <;> simp
      have l2 : q2.length ≤ 1 := by rw [hq2]; split <;> simp
      have HR := Lib.hid hR
      have HQ1 := Lib.hid hq1
      have HQ2 := Lib.hid hq2
      have E1 := Lib.hid e1
      clear hR hq1 hq2 e1
      go_upto_if 104 with (fail)
      go_cut [] (fun wx => MI wb lb ob b s q (s.mPut ++ s.mGive ++ s.mShut ++ s.mLeave ++ s.mAns ++ q1) wx)
      case first =>
        cases e2 : s.shut with
        | true =>
          have hR : q1 = [] := by rw [HQ1.out, e2]; rfl
          have hM := hM.out
          clear e2
          go_wp2
          go_meet
          rw [hR, List.append_nil]
          exact hM
        | false =>
          have hR : q1 = [⟨6, -2, 0⟩] := by rw [HQ1.out, e2]; rfl
          have HR := Lib.hid hR
          clear hR e2
          have hW0 : Chg [] wc (wc.alloc (.cells #[.int .i64 6, .int .i64 (-2), .int .i64 0] 31)) := ((Chg.refl _ _).alloc _)
          have hM0 : (wc.alloc (.cells #[.int .i64 6, .int .i64 (-2), .int .i64 0] 31)).heap[wc.heap.size]? = some (.cells #[.int .i64 6, .int .i64 (-2), .int .i64 0] 31 (0, 0)) := (blk_new wc _)
          have hout0 : OutIs (wc.alloc (.cells #[.int .i64 6, .int .i64 (-2), .int .i64 0] 31)) ob v' (s.mPut ++ s.mGive ++ s.mShut ++ s.mLeave ++ s.mAns) := ⟨hW0.at h1.1 (by simp), h1.2.1.chg0 hW0, h1.2.2⟩
          obtain ⟨v2, w6, hap, hrow2, hch2, hat2, ⟨a2, cap2, hv2⟩, hobc, hobf, hob6⟩ := hout0.app (by simp only [List.length_append, List.length_nil]; omega) ⟨6, (-2), 0⟩ wc.heap.size hM0
          have hE := EachI.step (w := wc) (add := []) (v := v') (by rw [List.append_nil]; exact h1) (Chg.refl _ _) (fun g hg => .inl hg) h1l hW0 (by rw [List.append_nil]; exact hrow2) hch2 hat2 hob6
          generalize List.length (s.mPut ++ s.mGive ++ s.mShut ++ s.mLeave ++ s.mAns) + 1 = n2 at hv2
          rw [hv2] at hE
          have hE2 := MI.add h1 h2 h3 h4 h5 h6 h7 h8 h9 h10 hE
          rw [List.nil_append] at hE2
          have HE := Lib.hid hE2
          simp only [hv2] at hap
          clear hv2 hE hE2 hrow2 hch2 hat2 hob6 hout0 hM0 hW0 h1 h2 h3
          go_wp2
          skip
          all_goals
            go_wp2
            go_meet
            rw [HR.out]
            exact HE.out
      case rest =>
      clear h1 h2 h3 h4 h5 h6 h7 h8 h9 h10 c0 c1 c2 c3 c4 c5 c6 c7 c8 h1c h1l HCV hM
      have hM := hcut
      clear hcut
      have hM' := hM
      obtain ⟨v', h1, h2, h3, h4, h5, h6, h7, h8, h9, h10⟩ := hM'
      obtain ⟨c0, c1, c2, c3, c4, c5, c6, c7, c8, _⟩ := h4.cells
      obtain ⟨ca, ccap, hcv, _⟩ := h4.2.1.slice
      rw [hcv] at c3
      have h1c := blk_cell h1.1 0 rfl
      have h1l := blk_lt h1.1
      have HCV := Lib.hid hcv
      have hM := Lib.hid hM
      clear hcv
      go_upto_if 113 with (fail)
      go_cut [] (fun wx => MI wb lb ob b s q (s.mPut ++ s.mGive ++ s.mShut ++ s.mLeave ++ s.mAns ++ q1 ++ q2) wx)
      case first =>
        by_cases hP : s.out = 0
        · have hR : q2 = [⟨6, -1, 0⟩] := by rw [HQ2.out, if_pos hP]
          have HR := Lib.hid hR
          have d1 : ((s.out : Int) == 0) = true := by simp [hP]
          clear hR
          have hW0 : Chg [] wc (wc.alloc (.cells #[.int .i64 6, .int .i64 (-1), .int .i64 0] 31)) := ((Chg.refl _ _).alloc _)
          have hM0 : (wc.alloc (.cells #[.int .i64 6, .int .i64 (-1), .int .i64 0] 31)).heap[wc.heap.size]? = some (.cells #[.int .i64 6, .int .i64 (-1), .int .i64 0] 31 (0, 0)) := (blk_new wc _)
          have hout0 : OutIs (wc.alloc (.cells #[.int .i64 6, .int .i64 (-1), .int .i64 0] 31)) ob v' (s.mPut ++ s.mGive ++ s.mShut ++ s.mLeave ++ s.mAns ++ q1) := ⟨hW0.at h1.1 (by simp), h1.2.1.chg0 hW0, h1.2.2⟩
          obtain ⟨v2, w6, hap, hrow2, hch2, hat2, ⟨a2, cap2, hv2⟩, hobc, hobf, hob6⟩ := hout0.app (by simp only [List.length_append, List.length_nil]; omega) ⟨6, (-1), 0⟩ wc.heap.size hM0
          have hE := EachI.step (w := wc) (add := []) (v := v') (by rw [List.append_nil]; exact h1) (Chg.refl _ _) (fun g hg => .inl hg) h1l hW0 (by rw [List.append_nil]; exact hrow2) hch2 hat2 hob6
          generalize List.length (s.mPut ++ s.mGive ++ s.mShut ++ s.mLeave ++ s.mAns ++ q1) + 1 = n2 at hv2
          rw [hv2] at hE
          have hE2 := MI.add h1 h2 h3 h4 h5 h6 h7 h8 h9 h10 hE
          rw [List.nil_append] at hE2
          have HE := Lib.hid hE2
          simp only [hv2] at hap
          clear hv2 hE hE2 hrow2 hch2 hat2 hob6 hout0 hM0 hW0 h1 h2 h3
          go_wp2
          skip
          all_goals
            go_wp2
            go_meet
            rw [HR.out]
            exact HE.out
        · have hR : q2 = [] := by rw [HQ2.out, if_neg hP]
          have hM := hM.out
          go_wp2
          go_meet
          rw [hR, List.append_nil]
          exact hM
      case rest =>
      clear h1 h2 h3 h4 h5 h6 h7 h8 h9 h10 c0 c1 c2 c3 c4 c5 c6 c7 c8 h1c h1l HCV hM
      have hM := hcut
      clear hcut
      have hM' := hM
      obtain ⟨v', h1, h2, h3, h4, h5, h6, h7, h8, h9, h10⟩ := hM'
      obtain ⟨c0, c1, c2, c3, c4, c5, c6, c7, c8, _⟩ := h4.cells
      obtain ⟨ca, ccap, hcv, _⟩ := h4.2.1.slice
      rw [hcv] at c3
      have h1c := blk_cell h1.1 0 rfl
      have h1l := blk_lt h1.1
      have HCV := Lib.hid hcv
      have hM := Lib.hid hM
      clear hcv
      have hE := each_quit wc b lb ob s q v' (s.mPut ++ s.mGive ++ s.mShut ++ s.mLeave ++ s.mAns ++ q1 ++ q2) h4 h5 h1 (by simp only [List.length_append]; omega) (MI.foot h2 h3 h6 h8 h9 h10)
      go_wp2_with (go_at_call 35; refine hE.mono ?_; rintro e w2 ⟨rfl, hE2⟩)
      go_meet
      have E := MI.add h1 h2 h3 h4 h5 h6 h7 h8 h9 h10 hE2
      rw [HR.out]
      rw [← List.append_assoc, ← List.append_assoc]
      exact E
  case rest =>
  clear h1 h2 h3 h4 h5 h6 h7 h8 h9 h10 c0 c1 c2 c3 c4 c5 c6 c7 c8 h1c h1l HCV hM
  obtain ⟨v', h1, h2, h3, h4, h5, h6, h7, h8, h9, h10⟩ := hcut
  have h1c := blk_cell h1.1 0 rfl
  have h1l := blk_lt h1.1
  go_wp2
  go_ret
  have hs := hc0.size
  have e1 := HLB.out
  have e2 := HOB.out
  exact ⟨_, rfl, h1.2.1, hc0.trans h2 (by intro x hx; simp at hx; right; omega), fun g hg => by have := h3 g hg; omega⟩
end Go.Proofs.Ytfmdghijbkddpaa

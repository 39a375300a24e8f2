/- The document's loom: New; the laws' two. -/
import Derived.Test.YtfmdghijbkddpaaLmRe
import Derived.Test.YtfmdghijbkddpaaLmH
namespace Go.Proofs.Ytfmdghijbkddpaa
open Go.RowKit
set_option linter.unusedVariables false
set_option linter.unusedSimpArgs false

/-- The reference's loom in the making: so many workers. -/
structure RMk (w0 : World) (b a j r : Nat) (k : Nat) (w : World) (v : Value) : Prop where
  blk : w.heap[b]? = some (.cells #[.int .i64 j, .int .i64 r, .int .i64 0, .bool false, .slice none 0 0, .bool false, v, .bool false, .slice none 0 0, .int .i64 0, .bool false, .int .i64 0, .int .i64 0] 64 (0, 0))
  row : RowIs w 66 2 v (List.replicate k ((-1 : Int), false)).length (rCells (List.replicate k (-1, false)))
  new : ∀ g, v.ownBlock = some g → w0.heap.size ≤ g ∧ g ≠ b
  chg : Chg [] w0 w
theorem RMk.step {w0 w : World} {b a j r k : Nat} {v : Value} (h : RMk w0 b a j r k w v) (hb0 : w0.heap.size ≤ b) (hk : k ≤ 64) :
    ∃ a1 cap w6, (apX #[62, 62] 62 #[v, .slice (some ⟨w.heap.size, 0, none⟩) 1 1]).run Try.prog (w.alloc (.cells #[.int .i64 (-1), .bool false] 66)) = .ok (.slice a1 (k + 1) cap) w6 ∧
      w6.cell? ⟨b, 6, none⟩ = some v ∧ w6.frozen? ⟨b, 6, none⟩ = false ∧ b < w6.heap.size ∧ RMk w0 b a j r (k + 1) (w6.setCell ⟨b, 6, none⟩ (.slice a1 (k + 1) cap)) (.slice a1 (k + 1) cap) := by
  have hc1 : Chg [] w (w.alloc (.cells #[.int .i64 (-1), .bool false] 66)) := (Chg.refl _ _).alloc _
  have hbl := blk_lt h.blk
  have hsz : (w.alloc (.cells #[.int .i64 (-1), .bool false] 66)).heap.size = w.heap.size + 1 := World.size_alloc _ _
  obtain ⟨v', w6, q1, q2, q3, q4, a1, cap, rfl⟩ := app_worker (h.row.chg0 hc1) (by simp; omega) (-1, false) w.heap.size (blk_new w _)
  have hrep : List.replicate k ((-1 : Int), false) ++ [(-1, false)] = List.replicate (k + 1) (-1, false) := by
    rw [List.replicate_succ']
  have hvb : b ∉ v.ownBlock.toList := fun hx => (h.new b (by simpa using hx)).2 rfl
  have hb6 := q3.at (hc1.at h.blk (by simp)) hvb
  simp only [List.length_replicate] at q1 q4 q2 ⊢
  refine ⟨a1, cap, w6, q1, blk_cell hb6 6 rfl, blk_frozen hb6 6, blk_lt hb6, ?_⟩
  have hnew : ∀ g, (Value.slice a1 (k + 1) cap).ownBlock = some g → w0.heap.size ≤ g ∧ g ≠ b := by
    intro g hg
    rcases q4 with e | e
    · rw [e] at hg
      exact h.new g hg
    · rw [e, hsz] at hg
      obtain rfl : w.heap.size + 1 = g := by simpa using hg
      have := h.chg.size
      omega
  have hC : Chg [b] w6 (w6.setCell ⟨b, 6, none⟩ (.slice a1 (k + 1) cap)) := (Chg.refl [b] w6).setCell (p := ⟨b, 6, none⟩) (by simp) _
  refine ⟨blk_set hb6 6 _, ?_, hnew, ?_⟩
  · rw [← hrep]
    have := q2.chg hC (fun g hg => by simp; exact (hnew g hg).2)
    simpa using this
  · refine Chg.setCell ((h.chg.nil_trans hc1).trans q3 ?_) (.inr hb0) _
    intro x hx
    right
    exact (h.new x (by simpa using hx)).1

theorem nodup_one (b : Nat) (v : Value) (h : ∀ g, v.ownBlock = some g → g ≠ b) : ((⟨.slice none 0 0, v, .slice none 0 0⟩ : LV).foot b).Nodup := by
  have e : (Value.slice none 0 0).ownBlock = none := rfl
  simp only [LV.foot, e, Option.toList_none, List.append_nil]
  cases ho : v.ownBlock with
  | none => simp
  | some g =>
    have := h g ho
    simp
    omega
set_option maxRecDepth 100000 in
theorem rnew_yes (a j r : Nat) (w : World) (h1 : 1 ≤ a) (h2 : a ≤ 64) (h3 : j ≤ 65536) (h4 : r ≤ 65536) : Calls Try.prog 44 #[.int .i64 a, .int .i64 j, .int .i64 r] w fun e w' => ∃ b q, e = .returned (.tuple #[.pointer (some ⟨b, 0, none⟩), .int .i64 0]) ∧ RefIs w' b (LS.init a j r) q ∧ Chg [] w w' ∧ ∀ k ∈ q.lv.foot b, w.heap.size ≤ k := by
  go_enter Try.func44, Try.ntmps44
  have hR0 : RMk w w.heap.size a j r 0 (w.alloc (.cells #[.int .i64 j, .int .i64 r, .int .i64 0, .bool false, .slice none 0 0, .bool false, .slice none 0 0, .bool false, .slice none 0 0, .int .i64 0, .bool false, .int .i64 0, .int .i64 0] 64)) (.slice none 0 0) :=
    ⟨blk_new w _, RowIs.nil _ _ _, by simp [Value.ownBlock], (Chg.refl _ _).alloc _⟩
  go_upto_region 5 with (fail)
  generalize World.alloc w _ = w1 at *
  obtain ⟨b, hb⟩ : ∃ b, b = w.heap.size := ⟨_, rfl⟩
  rw [← hb] at hR0 ⊢
  have HB := Lib.hid hb
  clear hb
  go_loopg [9] a (fun g ii wx => ∃ (k : Nat) (v : Value), k ≤ a ∧ g = a - k ∧ ii = .int .i64 k ∧ RMk w b a j r k wx v)
  case atStart => exact ⟨0, _, by omega, by omega, rfl, hR0⟩
  case round =>
    clear hR0
    obtain ⟨k, v, hk, hgk, rfl, hR⟩ := hrel
    have c6 := blk_cell hR.blk 6 (v := v) rfl
    have hbl := blk_lt hR.blk
    by_cases hlt : k < a
    · obtain ⟨a1, cap, w6, hrun, d6, df, dl, hR2⟩ := hR.step (by rw [HB.out]; exact Nat.le_refl _) (by omega)
      have HR2 := Lib.hid hR2
      clear hR hR2
      go_wp2
      go_roundg (a - (k + 1))
      case measure => omega
      case rel => exact ⟨k + 1, _, by omega, rfl, by go_num, HR2.out⟩
    · obtain rfl : k = a := by omega
      have hkk : ∀ s : LS, s.ch = [] → s.ans = [] → s.ws = List.replicate k (0, 0) → s.jobs ≤ 65536 → s.room ≤ 65536 → s.next = 0 → s.out ≤ 2 → s.top = 0 → s.made = 0 → s.ok := by
        intro s e1 e2 e3 e4 e5 e6 e7 e8 e9
        refine ⟨e4, e5, by omega, by rw [e3, List.length_replicate]; exact h2, ?_, by rw [e1]; simp, by rw [e2]; simp, e7, by omega, by omega⟩
        intro x hx
        rw [e3] at hx
        simp at hx
        simp [hx.2]
      have hwk : Wks (List.replicate k (0, 0)) (List.replicate k ((-1 : Int), false)) := by
        refine ⟨by simp, fun i h h' => ?_⟩
        simp only [List.getElem_replicate]
        exact ⟨by simp, by simp, by simp, by simp, by simp⟩
      have hnd := nodup_one b v (fun g hg => (hR.new g hg).2)
      have hft : ∀ x ∈ (⟨.slice none 0 0, v, .slice none 0 0⟩ : LV).foot b, w.heap.size ≤ x := by
        intro x hx
        simp only [LV.foot, List.mem_append, List.mem_cons, Option.mem_toList] at hx
        rcases hx with ((rfl | hx) | hx) | hx
        · rw [HB.out]; exact Nat.le_refl _
        · simp [Value.ownBlock] at hx
        · exact (hR.new x hx).1
        · simp [Value.ownBlock] at hx
      have hrow := hR.row
      rw [List.length_replicate] at hrow
      have hR0 : RefIs _ b (LS.init0 k j r) ⟨⟨.slice none 0 0, v, .slice none 0 0⟩, List.replicate k (-1, false)⟩ := ⟨hR.blk, RowIs.nil _ _ _, hR.row, RowIs.nil _ _ _, hnd, hkk _ rfl rfl rfl h3 h4 rfl (by simp [LS.init0]) rfl rfl, hwk⟩
      by_cases hj : j = 0
      · have hU := hR0.upd (s' := (LS.init k j r)) (((Chg.refl [b] _).setCell (p := ⟨b, 7, none⟩) (by simp) (.bool true)).setCell (p := ⟨b, 9, none⟩) (by simp) (.int .i64 1)) (by
          have := blk_set (blk_set hR0.1 7 (.bool true)) 9 (.int .i64 1)
          have e : LS.init k j r = { LS.init0 k j r with out := 1 } := by
            show (LS.init0 k j r).looked = _
            unfold LS.looked
            rw [if_pos ⟨rfl, by show 0 = j; omega⟩]
          rw [e]
          exact this) (by unfold LS.init LS.looked; split <;> rfl) (by unfold LS.init LS.looked; split <;> rfl) (by unfold LS.init LS.looked; split <;> rfl) (by
            unfold LS.init LS.looked
            split
            · exact hkk _ rfl rfl rfl h3 h4 rfl (by simp) rfl rfl
            · exact hkk _ rfl rfl rfl h3 h4 rfl (by simp) rfl rfl)
        have f7 := blk_frozen hR.blk 7
        have f9 := blk_frozen hR.blk 9
        have c7 := blk_cell hR.blk 7 (v := .bool false) rfl
        have c9 := blk_cell hR.blk 9 (v := .int .i64 0) rfl
        have hch := hR.chg
        have b1 : ((j : Int) == 0) = true := by simp [hj]
        have HU := Lib.hid hU
        have HJ := Lib.hid hj
        clear hU hR hR0 hrow hj
        go_wp2
        go_ret2
        refine ⟨b, _, rfl, HU.out, (hch.setCell (p := ⟨b, 7, none⟩) (.inr (by rw [HB.out]; exact Nat.le_refl _)) _).setCell (p := ⟨b, 9, none⟩) (.inr (by rw [HB.out]; exact Nat.le_refl _)) _, hft⟩
      · have b1 : ((j : Int) == 0) = false := beq_eq_false_iff_ne.2 (by omega)
        have hch := hR.chg
        have e : LS.init k j r = LS.init0 k j r := by
          show (LS.init0 k j r).looked = _
          unfold LS.looked
          rw [if_neg]
          rintro ⟨_, h⟩
          have h : 0 = j := h
          omega
        have HR0 := Lib.hid hR0
        have HE := Lib.hid e
        clear e hR hR0 hrow hj
        go_wp2
        go_ret2
        rw [HE.out]
        exact ⟨b, _, rfl, HR0.out, hch, hft⟩

theorem two_no (a j r : Int) (w : World) (h : ¬ mayP a j r) : Calls Try.prog 18 #[.int .i64 a, .int .i64 j, .int .i64 r] w fun e w' => e = .returned (.tuple #[.pointer none, .pointer none, .bool true]) ∧ w' = w := by
  go_enter Try.func18, Try.ntmps18
  go_upto_region 2 with (go_at_call 11; refine (new_no a j r w h).mono ?_; rintro e w1 ⟨rfl, hw1⟩; obtain rfl : w = w1 := hw1.symm)
  go_upto_region 3 with (go_at_call 44; refine (rnew_no a j r w h).mono ?_; rintro e w1 ⟨rfl, hw1⟩; obtain rfl : w = w1 := hw1.symm)
  go_wp2
  go_ret3
  exact ⟨rfl, rfl⟩
theorem two_yes (a j r : Nat) (w : World) (h1 : 1 ≤ a) (h2 : a ≤ 64) (h3 : j ≤ 65536) (h4 : r ≤ 65536) : Calls Try.prog 18 #[.int .i64 a, .int .i64 j, .int .i64 r] w fun e w' => ∃ b q rb rq, e = .returned (.tuple #[.pointer (some ⟨b, 0, none⟩), .pointer (some ⟨rb, 0, none⟩), .bool true]) ∧ LmIs w' b (LS.init a j r) q ∧ RefIs w' rb (LS.init a j r) rq ∧ Chg [] w w' ∧ (∀ k ∈ q.foot b, w.heap.size ≤ k) ∧ (∀ k ∈ rq.lv.foot rb, w.heap.size ≤ k) ∧ ∀ k ∈ q.foot b, k ∉ rq.lv.foot rb := by
  have hn := new_yes a j r w h1 h2 h3 h4
  have hr := fun w => rnew_yes a j r w h1 h2 h3 h4
  go_enter Try.func18, Try.ntmps18
  go_upto_region 2 with (go_at_call 11; refine hn.mono ?_; rintro e w1 ⟨b, q, rfl, k1, k2, k3⟩)
  go_upto_region 3 with (go_at_call 44; refine (hr w1).mono ?_; rintro e w2 ⟨rb, rq, rfl, l1, l2, l3⟩)
  go_wp2
  go_ret3
  have hlt := k1.lt
  refine ⟨b, q, rb, rq, rfl, k1.chg0 l2, l1, k2.nil_trans l2, k3, fun k hk => by have := l3 k hk; have := k2.size; omega, fun k hk hk2 => ?_⟩
  have := hlt k hk
  have := l3 k hk2
  omega
end Go.Proofs.Ytfmdghijbkddpaa

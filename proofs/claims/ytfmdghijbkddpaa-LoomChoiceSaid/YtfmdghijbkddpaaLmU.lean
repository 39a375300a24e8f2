/- LoomTops: its walk. -/
import Derived.Test.YtfmdghijbkddpaaLmH
import Derived.Test.YtfmdghijbkddpaaLmT
namespace Go.Proofs.Ytfmdghijbkddpaa
open Go.RowKit
set_option linter.unusedVariables false
set_option linter.unusedSimpArgs false

structure LR (w : World) (a j r : Nat) (b : Nat) (s : LS) (q : LV) (wr : World) : Prop where
  is : LmIs wr b s q
  good : s.good
  jobs : s.jobs = j
  ws : s.ws.length = a
  room : s.room = r
  chg : Chg [] w wr
  new : ∀ k ∈ q.foot b, w.heap.size ≤ k
theorem LR.chg0 {w wr w' : World} {a j r b : Nat} {s : LS} {q : LV} (h : LR w a j r b s q wr) (hc : Chg [] wr w') : LR w a j r b s q w' :=
  ⟨h.is.chg0 hc, h.good, h.jobs, h.ws, h.room, h.chg.nil_trans hc, h.new⟩
theorem LR.make {w wr w' : World} {a j r b : Nat} {s : LS} {q : LV} {m : Mv} (h : LR w a j r b s q wr) (hc : s.Can m) (hm : MakeP wr b q (s.make m) w') : ∃ q', LR w a j r b (s.make m) q' w' := by
  obtain ⟨q', k1, k2, k3⟩ := hm
  obtain ⟨_, _, _, e1, e2, e3, _⟩ := inv_make s m h.good.1 hc
  have hs := h.chg.size
  refine ⟨q', k1, h.good.make hc, e1.trans h.jobs, e3.trans h.ws, e2.trans h.room, h.chg.trans k2 (fun x hx => .inr (h.new x hx)), fun k hk => ?_⟩
  rcases k3 k hk with e | e
  · exact h.new k e
  · omega
theorem LR.init {w w' : World} {a j r b : Nat} {q : LV} (h1 : 1 ≤ a) (h2 : a ≤ 64) (h3 : j ≤ 65536) (h4 : r ≤ 65536) (h : LmIs w' b (LS.init a j r) q) (hc : Chg [] w w') (hf : ∀ k ∈ q.foot b, w.heap.size ≤ k) : LR w a j r b (LS.init a j r) q w' := by
  have e : (LS.init a j r).jobs = j ∧ (LS.init a j r).ws.length = a ∧ (LS.init a j r).room = r := by
    unfold LS.init LS.looked
    split <;> simp
  exact ⟨h, init_good a j r h1 h2 h3 h4, e.1, e.2.1, e.2.2, hc, hf⟩

/-- What the inner loop has found among the first i moves: the first put, and no give. -/
def Seek (ms : List Mv) (i : Nat) (k : Int) : Prop := (∀ x (h : x < ms.length), x < i → ms[x].kind ≠ 2) ∧ ((k = -1 ∧ ∀ x (h : x < ms.length), x < i → ms[x].kind ≠ 1) ∨ ∃ (x : Nat) (h : x < ms.length), k = x ∧ ms[x].kind = 1)

set_option maxRecDepth 100000 in
set_option maxHeartbeats 4000000 in
theorem tops_main (w : World) (a j r : Nat) (h1 : 1 ≤ a) (h2 : a ≤ 64) (h3 : j ≤ 400) (h4 : r ≤ 65536) :
    Calls Try.prog 3 #[.int .i64 a, .int .i64 j, .int .i64 r] w (Res w [] (.bool true)) := by
  have hnew := new_yes a j r w h1 h2 (by omega) h4
  have htop : (LS.init a j r).tops 0 := tops_looked _ _ (tops_init a j r)
  have hir : ∀ w' b q, LmIs w' b (LS.init a j r) q → Chg [] w w' → (∀ k ∈ q.foot b, w.heap.size ≤ k) → LR w a j r b (LS.init a j r) q w' := fun w' b q => LR.init h1 h2 (by omega) h4
  generalize LS.init a j r = s0 at *
  by_cases hc : j < a
  · skip
    go_enter Try.func3, Try.ntmps3
    go_upto_region 3 with (go_at_call 10; refine (sane_yes _ _ _ w ⟨by omega, by omega, by omega, by omega, by omega, by omega⟩).mono ?_; rintro e w1 ⟨rfl, hw1⟩; obtain rfl : w = w1 := hw1.symm)
    go_upto_region 6 with (go_at_call 11; refine hnew.mono ?_; rintro e w1 ⟨b, q, rfl, k1, k2, k3⟩)
    have hL := hir _ _ _ k1 k2 k3
    clear k1 k2 k3 hir hnew
    go_upto_region 9 with (fail)
    go_wp2
    go_loopg [10] 2000 (fun g n wr => ∃ (k : Nat) (s : LS) (q : LV), g = 2000 - k ∧ k ≤ 1999 ∧ n = .int .i64 k ∧ LR w a j r b s q wr ∧ s.tops k)
    case atStart => exact ⟨0, s0, q, rfl, by omega, rfl, hL, htop⟩
    case round =>
      obtain ⟨k, s, q3, hgk, hk9, rfl, hL1, ht⟩ := hrel
      have hgi := hL1.good.1
      have hgt : s.gauge ≤ s.top := hgi.top.2.2
      have hga : s.gauge ≤ a := by have := hgi.top; rw [hL1.ws] at this; omega
      have hgj : s.gauge ≤ j := by have := hgi.top; rw [hL1.jobs] at this; omega
      have hgt2 : s.top ≤ a ∧ s.top ≤ j := by have := hgi.top; rw [hL1.ws, hL1.jobs] at this; omega
      have hkb : k ≤ 200 := by
        have h1 := ht.rounds
        have h2 := ht.next
        have h3 := ht.one
        omega
      by_cases hlt : s.gauge < j
      · have d1 : decide (s.gauge < j) = true := by simp [hlt]
        obtain ⟨f1, f2, f3⟩ := (⟨hL1.is, hL1.good, hL1.chg⟩ : LmIs wr b s q3 ∧ s.good ∧ Chg [] w wr)
        go_upto_region 12 with (go_at_call 12; refine (gauge_calls wr b s q3 f1).mono ?_; rintro e w4 ⟨rfl, hc4⟩)
        have hL4 := hL1.chg0 hc4
        go_upto_region 13 with (go_at_call 13; refine (moves_calls w4 b s q3 hL4.is).mono ?_; rintro e w5 ⟨v, rfl, hr, hc5, _⟩)
        have hL5 := hL4.chg0 hc5
        have hp := tops_pick s k hgi ht (by rw [hL1.ws]; omega) (by rw [hL1.jobs]; omega)
        have hpos : 0 < s.moves.length := by
          rcases hp with ⟨m, hm, _⟩ | ⟨_, m, hm, _⟩ <;> exact List.length_pos_of_mem hm
        have hlen : s.moves.length ≤ 260 := by have := moves_length s; have := hL1.is.2.2.2.2.2.ws; omega
        obtain ⟨mg, mo, mcap, rfl, _, _⟩ := hr.ptr hpos
        have hcell := fun (i : Nat) (hi : i < s.moves.length) => And.intro (hr.cell (mCells_at s.moves i hi).1) trivial
        have HP := Lib.hid hp
        clear hp hr
        go_wp2
        go_loopg [12, 13] s.moves.length (fun g kk ii wi => ∃ (i : Nat) (K : Int), i ≤ s.moves.length ∧ g = s.moves.length - i ∧ ii = .int .i64 i ∧ kk = .int .i64 K ∧ wi = w5 ∧ Seek s.moves i K)
        case atStart => exact ⟨0, -1, Nat.zero_le _, by omega, rfl, rfl, rfl, fun x h hx => absurd hx (by omega), .inl ⟨rfl, fun x h hx => absurd hx (by omega)⟩⟩
        case round =>
          obtain ⟨i, K, hi, hgi', rfl, rfl, rfl, hS1, hS2⟩ := hrel
          by_cases hlt2 : i < s.moves.length
          · have hlt3 : i < s.moves.length := hlt2
            obtain ⟨y1, _⟩ := hcell i hlt3
            have hmg := World.block_lt_of_cell? _ _ y1
            clear hcell
            have hkd : ∃ kd, kd = s.moves[i].kind := ⟨_, rfl⟩
            obtain ⟨kd, hkd⟩ := hkd
            rw [← hkd] at y1
            have HKD := Lib.hid hkd
            have HS1 := Lib.hid hS1
            have HS2 := Lib.hid hS2
            clear hkd hS1
            by_cases k2 : kd = 2
            · subst k2
              clear hS2
              have hcan := can_of_mem s s.moves[i] (List.getElem_mem hlt3)
              have hmt := tops_make s k s.moves[i] hgi ht hcan (by exact .inl HKD.out.symm)
              have HMT := Lib.hid hmt
              have HCAN := Lib.hid hcan
              clear hmt hcan
              go_wp2_with (go_at_call 14; refine (move_ok _ b s q3 i hL5.is hL5.good hlt3).mono ?_; rintro e w6 ⟨rfl, hM⟩)
              obtain ⟨q', hL6⟩ := hL5.make HCAN.out hM
              go_roundg (2000 - (k + 1))
              case measure => omega
              case rel => exact ⟨k + 1, _, q', rfl, by omega, by go_num, hL6, HMT.out⟩
            · have b2 : (kd == 2) = false := by simp [k2]
              rcases hS2 with ⟨rfl, hn⟩ | ⟨x, hx, rfl, hx1⟩
              · by_cases k1 : kd = 1
                · subst k1
                  clear hn
                  go_wp2
                  go_roundg (s.moves.length - (i + 1))
                  case measure => omega
                  case rel =>
                    refine ⟨i + 1, i, by omega, rfl, by go_num, rfl, rfl, ?_, .inr ⟨i, hlt3, rfl, HKD.out.symm⟩⟩
                    intro x h hx e
                    rcases Nat.lt_succ_iff_lt_or_eq.1 hx with hx' | rfl
                    · exact HS1.out x h hx' e
                    · have := HKD.out; omega
                · have b1 : (kd == 1) = false := by simp [k1]
                  have HN := Lib.hid hn
                  clear hn
                  go_wp2
                  go_roundg (s.moves.length - (i + 1))
                  case measure => omega
                  case rel =>
                    refine ⟨i + 1, -1, by omega, rfl, by go_num, rfl, rfl, ?_, .inl ⟨rfl, ?_⟩⟩
                    · intro x h hx e
                      rcases Nat.lt_succ_iff_lt_or_eq.1 hx with hx' | rfl
                      · exact HS1.out x h hx' e
                      · have := HKD.out; omega
                    · intro x h hx e
                      rcases Nat.lt_succ_iff_lt_or_eq.1 hx with hx' | rfl
                      · exact HN.out x h hx' e
                      · have := HKD.out; omega
              · have HX := Lib.hid hx1
                clear hx1
                go_wp2
                go_roundg (s.moves.length - (i + 1))
                case measure => omega
                case rel =>
                  refine ⟨i + 1, x, by omega, rfl, by go_num, rfl, rfl, ?_, .inr ⟨x, hx, rfl, HX.out⟩⟩
                  intro x' h hx' e
                  rcases Nat.lt_succ_iff_lt_or_eq.1 hx' with hx'' | rfl
                  · exact HS1.out x' h hx'' e
                  · have := HKD.out; omega
          · obtain rfl : i = s.moves.length := by omega
            have hno : ∀ m ∈ s.moves, m.kind ≠ 2 := by
              intro m hm
              obtain ⟨x, hx, rfl⟩ := List.mem_iff_getElem.1 hm
              exact hS1 x hx hx
            rcases hS2 with ⟨_, hn⟩ | ⟨x, hx, rfl, hx1⟩
            · exfalso
              rcases HP.out with ⟨m, hm, e⟩ | ⟨_, m, hm, e⟩
              · exact hno m hm e
              · obtain ⟨x, hx, rfl⟩ := List.mem_iff_getElem.1 hm
                exact hn x hx hx e
            · have hch : s.ch = [] := by
                rcases HP.out with ⟨m, hm, e⟩ | ⟨e, _⟩
                · exact absurd e (hno m hm)
                · exact e
              have HC := Lib.hid hch
              have HX := Lib.hid hx1
              clear hch hx1 hno hS1 hcell
              have hcan := can_of_mem s s.moves[x] (List.getElem_mem hx)
              have hmt := tops_make s k s.moves[x] hgi ht hcan (by exact .inr ⟨HC.out, HX.out⟩)
              have HMT := Lib.hid hmt
              have HCAN := Lib.hid hcan
              clear hmt hcan
              go_wp2_with (go_at_call 14; refine (move_ok _ b s q3 x hL5.is hL5.good hx).mono ?_; rintro e w6 ⟨rfl, hM⟩)
              obtain ⟨q', hL6⟩ := hL5.make HCAN.out hM
              go_roundg (2000 - (k + 1))
              case measure => omega
              case rel => exact ⟨k + 1, _, q', rfl, by omega, by go_num, hL6, HMT.out⟩
      · have d1 : decide (s.gauge < j) = false := by simp; omega
        have e1 : s.gauge = j := by omega
        have e2 : s.top = j := by omega
        have hG := gauge_calls wr b s q3 hL1.is
        have hG2 := fun w4 (hc : Chg [] wr w4) => gauge_calls w4 b s q3 (hL1.chg0 hc).is
        have hT := fun w4 (hc : Chg [] wr w4) => top_calls w4 b s q3 (hL1.chg0 hc).is
        rw [e1] at hG hG2
        rw [e2] at hT
        have hcw := hL1.chg
        clear e1 e2 hgt hga hgj hgt2 d1 hlt ht hgi
        go_upto_region 22 with (go_at_call 12; refine hG.mono ?_; rintro e w4 ⟨rfl, hc4⟩)
        go_wp2_with fail
        go_at_call 12
        refine (hG2 w4 hc4).mono ?_
        rintro e w5 ⟨rfl, hc5⟩
        go_wp2_with fail
        go_at_call 15
        refine (hT w5 (hc4.trans hc5 (by simp))).mono ?_
        rintro e w6 ⟨rfl, hw6⟩
        obtain rfl : w5 = w6 := hw6.symm
        go_wp2_with (go_at_call 16; refine (awake_calls w5).mono ?_; rintro e w7 ⟨rfl, hc7⟩)
        go_ret
        exact ⟨rfl, ((hcw.nil_trans hc4).nil_trans hc5).nil_trans hc7⟩
  · skip
    go_enter Try.func3, Try.ntmps3
    go_upto_region 3 with (go_at_call 10; refine (sane_yes _ _ _ w ⟨by omega, by omega, by omega, by omega, by omega, by omega⟩).mono ?_; rintro e w1 ⟨rfl, hw1⟩; obtain rfl : w = w1 := hw1.symm)
    go_upto_region 6 with (go_at_call 11; refine hnew.mono ?_; rintro e w1 ⟨b, q, rfl, k1, k2, k3⟩)
    have hL := hir _ _ _ k1 k2 k3
    clear k1 k2 k3 hir hnew
    go_upto_region 9 with (fail)
    go_wp2
    go_loopg [10] 2000 (fun g n wr => ∃ (k : Nat) (s : LS) (q : LV), g = 2000 - k ∧ k ≤ 1999 ∧ n = .int .i64 k ∧ LR w a j r b s q wr ∧ s.tops k)
    case atStart => exact ⟨0, s0, q, rfl, by omega, rfl, hL, htop⟩
    case round =>
      obtain ⟨k, s, q3, hgk, hk9, rfl, hL1, ht⟩ := hrel
      have hgi := hL1.good.1
      have hgt : s.gauge ≤ s.top := hgi.top.2.2
      have hga : s.gauge ≤ a := by have := hgi.top; rw [hL1.ws] at this; omega
      have hgj : s.gauge ≤ j := by have := hgi.top; rw [hL1.jobs] at this; omega
      have hgt2 : s.top ≤ a ∧ s.top ≤ j := by have := hgi.top; rw [hL1.ws, hL1.jobs] at this; omega
      have hkb : k ≤ 200 := by
        have h1 := ht.rounds
        have h2 := ht.next
        have h3 := ht.one
        omega
      by_cases hlt : s.gauge < a
      · have d1 : decide (s.gauge < a) = true := by simp [hlt]
        obtain ⟨f1, f2, f3⟩ := (⟨hL1.is, hL1.good, hL1.chg⟩ : LmIs wr b s q3 ∧ s.good ∧ Chg [] w wr)
        go_upto_region 12 with (go_at_call 12; refine (gauge_calls wr b s q3 f1).mono ?_; rintro e w4 ⟨rfl, hc4⟩)
        have hL4 := hL1.chg0 hc4
        go_upto_region 13 with (go_at_call 13; refine (moves_calls w4 b s q3 hL4.is).mono ?_; rintro e w5 ⟨v, rfl, hr, hc5, _⟩)
        have hL5 := hL4.chg0 hc5
        have hp := tops_pick s k hgi ht (by rw [hL1.ws]; omega) (by rw [hL1.jobs]; omega)
        have hpos : 0 < s.moves.length := by
          rcases hp with ⟨m, hm, _⟩ | ⟨_, m, hm, _⟩ <;> exact List.length_pos_of_mem hm
        have hlen : s.moves.length ≤ 260 := by have := moves_length s; have := hL1.is.2.2.2.2.2.ws; omega
        obtain ⟨mg, mo, mcap, rfl, _, _⟩ := hr.ptr hpos
        have hcell := fun (i : Nat) (hi : i < s.moves.length) => And.intro (hr.cell (mCells_at s.moves i hi).1) trivial
        have HP := Lib.hid hp
        clear hp hr
        go_wp2
        go_loopg [12, 13] s.moves.length (fun g kk ii wi => ∃ (i : Nat) (K : Int), i ≤ s.moves.length ∧ g = s.moves.length - i ∧ ii = .int .i64 i ∧ kk = .int .i64 K ∧ wi = w5 ∧ Seek s.moves i K)
        case atStart => exact ⟨0, -1, Nat.zero_le _, by omega, rfl, rfl, rfl, fun x h hx => absurd hx (by omega), .inl ⟨rfl, fun x h hx => absurd hx (by omega)⟩⟩
        case round =>
          obtain ⟨i, K, hi, hgi', rfl, rfl, rfl, hS1, hS2⟩ := hrel
          by_cases hlt2 : i < s.moves.length
          · have hlt3 : i < s.moves.length := hlt2
            obtain ⟨y1, _⟩ := hcell i hlt3
            have hmg := World.block_lt_of_cell? _ _ y1
            clear hcell
            have hkd : ∃ kd, kd = s.moves[i].kind := ⟨_, rfl⟩
            obtain ⟨kd, hkd⟩ := hkd
            rw [← hkd] at y1
            have HKD := Lib.hid hkd
            have HS1 := Lib.hid hS1
            have HS2 := Lib.hid hS2
            clear hkd hS1
            by_cases k2 : kd = 2
            · subst k2
              clear hS2
              have hcan := can_of_mem s s.moves[i] (List.getElem_mem hlt3)
              have hmt := tops_make s k s.moves[i] hgi ht hcan (by exact .inl HKD.out.symm)
              have HMT := Lib.hid hmt
              have HCAN := Lib.hid hcan
              clear hmt hcan
              go_wp2_with (go_at_call 14; refine (move_ok _ b s q3 i hL5.is hL5.good hlt3).mono ?_; rintro e w6 ⟨rfl, hM⟩)
              obtain ⟨q', hL6⟩ := hL5.make HCAN.out hM
              go_roundg (2000 - (k + 1))
              case measure => omega
              case rel => exact ⟨k + 1, _, q', rfl, by omega, by go_num, hL6, HMT.out⟩
            · have b2 : (kd == 2) = false := by simp [k2]
              rcases hS2 with ⟨rfl, hn⟩ | ⟨x, hx, rfl, hx1⟩
              · by_cases k1 : kd = 1
                · subst k1
                  clear hn
                  go_wp2
                  go_roundg (s.moves.length - (i + 1))
                  case measure => omega
                  case rel =>
                    refine ⟨i + 1, i, by omega, rfl, by go_num, rfl, rfl, ?_, .inr ⟨i, hlt3, rfl, HKD.out.symm⟩⟩
                    intro x h hx e
                    rcases Nat.lt_succ_iff_lt_or_eq.1 hx with hx' | rfl
                    · exact HS1.out x h hx' e
                    · have := HKD.out; omega
                · have b1 : (kd == 1) = false := by simp [k1]
                  have HN := Lib.hid hn
                  clear hn
                  go_wp2
                  go_roundg (s.moves.length - (i + 1))
                  case measure => omega
                  case rel =>
                    refine ⟨i + 1, -1, by omega, rfl, by go_num, rfl, rfl, ?_, .inl ⟨rfl, ?_⟩⟩
                    · intro x h hx e
                      rcases Nat.lt_succ_iff_lt_or_eq.1 hx with hx' | rfl
                      · exact HS1.out x h hx' e
                      · have := HKD.out; omega
                    · intro x h hx e
                      rcases Nat.lt_succ_iff_lt_or_eq.1 hx with hx' | rfl
                      · exact HN.out x h hx' e
                      · have := HKD.out; omega
              · have HX := Lib.hid hx1
                clear hx1
                go_wp2
                go_roundg (s.moves.length - (i + 1))
                case measure => omega
                case rel =>
                  refine ⟨i + 1, x, by omega, rfl, by go_num, rfl, rfl, ?_, .inr ⟨x, hx, rfl, HX.out⟩⟩
                  intro x' h hx' e
                  rcases Nat.lt_succ_iff_lt_or_eq.1 hx' with hx'' | rfl
                  · exact HS1.out x' h hx'' e
                  · have := HKD.out; omega
          · obtain rfl : i = s.moves.length := by omega
            have hno : ∀ m ∈ s.moves, m.kind ≠ 2 := by
              intro m hm
              obtain ⟨x, hx, rfl⟩ := List.mem_iff_getElem.1 hm
              exact hS1 x hx hx
            rcases hS2 with ⟨_, hn⟩ | ⟨x, hx, rfl, hx1⟩
            · exfalso
              rcases HP.out with ⟨m, hm, e⟩ | ⟨_, m, hm, e⟩
              · exact hno m hm e
              · obtain ⟨x, hx, rfl⟩ := List.mem_iff_getElem.1 hm
                exact hn x hx hx e
            · have hch : s.ch = [] := by
                rcases HP.out with ⟨m, hm, e⟩ | ⟨e, _⟩
                · exact absurd e (hno m hm)
                · exact e
              have HC := Lib.hid hch
              have HX := Lib.hid hx1
              clear hch hx1 hno hS1 hcell
              have hcan := can_of_mem s s.moves[x] (List.getElem_mem hx)
              have hmt := tops_make s k s.moves[x] hgi ht hcan (by exact .inr ⟨HC.out, HX.out⟩)
              have HMT := Lib.hid hmt
              have HCAN := Lib.hid hcan
              clear hmt hcan
              go_wp2_with (go_at_call 14; refine (move_ok _ b s q3 x hL5.is hL5.good hx).mono ?_; rintro e w6 ⟨rfl, hM⟩)
              obtain ⟨q', hL6⟩ := hL5.make HCAN.out hM
              go_roundg (2000 - (k + 1))
              case measure => omega
              case rel => exact ⟨k + 1, _, q', rfl, by omega, by go_num, hL6, HMT.out⟩
      · have d1 : decide (s.gauge < a) = false := by simp; omega
        have e1 : s.gauge = a := by omega
        have e2 : s.top = a := by omega
        have hG := gauge_calls wr b s q3 hL1.is
        have hG2 := fun w4 (hc : Chg [] wr w4) => gauge_calls w4 b s q3 (hL1.chg0 hc).is
        have hT := fun w4 (hc : Chg [] wr w4) => top_calls w4 b s q3 (hL1.chg0 hc).is
        rw [e1] at hG hG2
        rw [e2] at hT
        have hcw := hL1.chg
        clear e1 e2 hgt hga hgj hgt2 d1 hlt ht hgi
        go_upto_region 22 with (go_at_call 12; refine hG.mono ?_; rintro e w4 ⟨rfl, hc4⟩)
        go_wp2_with fail
        go_at_call 12
        refine (hG2 w4 hc4).mono ?_
        rintro e w5 ⟨rfl, hc5⟩
        go_wp2_with fail
        go_at_call 15
        refine (hT w5 (hc4.trans hc5 (by simp))).mono ?_
        rintro e w6 ⟨rfl, hw6⟩
        obtain rfl : w5 = w6 := hw6.symm
        go_wp2_with (go_at_call 16; refine (awake_calls w5).mono ?_; rintro e w7 ⟨rfl, hc7⟩)
        go_ret
        exact ⟨rfl, ((hcw.nil_trans hc4).nil_trans hc5).nil_trans hc7⟩

theorem tops_no (a j r : Int) (w : World) (h : ¬ saneB a j r) : Calls Try.prog 3 #[.int .i64 a, .int .i64 j, .int .i64 r] w (Res w [] (.bool true)) := by
  go_enter Try.func3, Try.ntmps3
  go_wp2_with (go_at_call 10; refine (sane_no _ _ _ w h).mono ?_; rintro e w1 ⟨rfl, hw1⟩; obtain rfl : w = w1 := hw1.symm)
  go_ret
  exact ⟨rfl, Chg.refl _ _⟩
theorem tops_walk (w : World) (a : Int) (ha : -9223372036854775808 ≤ a ∧ a < 9223372036854775808) (j : Int) (hj : -9223372036854775808 ≤ j ∧ j < 9223372036854775808) (r : Int) (hr : -9223372036854775808 ≤ r ∧ r < 9223372036854775808) :
    Calls Try.prog 3 #[.int .i64 a, .int .i64 j, .int .i64 r] w (Res w [] (.bool true)) := by
  by_cases h : saneB a j r
  · obtain ⟨h1, h2, h3, h4, h5, h6⟩ := h
    obtain ⟨a, rfl⟩ : ∃ n : Nat, a = n := ⟨a.toNat, by omega⟩
    obtain ⟨j, rfl⟩ : ∃ n : Nat, j = n := ⟨j.toNat, by omega⟩
    obtain ⟨r, rfl⟩ : ∃ n : Nat, r = n := ⟨r.toNat, by omega⟩
    exact tops_main w a j r (by omega) (by omega) (by omega) (by omega)
  · exact tops_no a j r w h
end Go.Proofs.Ytfmdghijbkddpaa

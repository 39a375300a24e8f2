/- The document's loom: what it is in memory; Gauge, Gone, Cancel. -/
import Derived.Test.YtfmdghijbkddpaaLmE
namespace Go.Proofs.Ytfmdghijbkddpaa
open Go.RowKit
set_option linter.unusedVariables false
set_option linter.unusedSimpArgs false

def rCells (l : List (Int × Bool)) : List Value := l.flatMap fun x => [.int .i64 x.1, .bool x.2]
theorem rCells_length (l : List (Int × Bool)) : (rCells l).length = l.length * 2 := by
  induction l with
  | nil => rfl
  | cons x l ih => simp only [rCells, List.flatMap_cons, List.length_append, List.length_cons] at ih ⊢; simp [ih]; omega
theorem rCells_at (l : List (Int × Bool)) : ∀ (i : Nat) (hi : i < l.length), (rCells l)[i * 2]? = some (.int .i64 l[i].1) ∧ (rCells l)[i * 2 + 1]? = some (.bool l[i].2) := by
  induction l with
  | nil => intro i hi; simp at hi
  | cons x l ih =>
    intro i hi
    have e : rCells (x :: l) = .int .i64 x.1 :: .bool x.2 :: rCells l := rfl
    cases i with
    | zero => exact ⟨rfl, rfl⟩
    | succ i =>
      have := ih i (by simpa using hi)
      rw [e, show (i + 1) * 2 = i * 2 + 1 + 1 from by omega]
      simpa using this
theorem rCells_set1 (l : List (Int × Bool)) : ∀ (i : Nat) (h : i < l.length) (x : Int), (rCells l).set (i * 2) (.int .i64 x) = rCells (l.set i (x, l[i].2)) := by
  induction l with
  | nil => intro i h; simp at h
  | cons y l ih =>
    intro i h x
    have e : ∀ (z : Int × Bool) (m : List (Int × Bool)), rCells (z :: m) = .int .i64 z.1 :: .bool z.2 :: rCells m := fun _ _ => rfl
    cases i with
    | zero => simp [e]
    | succ i =>
      rw [e, show (i + 1) * 2 = i * 2 + 1 + 1 from by omega]
      simp only [List.set_cons_succ]
      rw [ih i (by simpa using h) x]
      rfl
theorem rCells_set2 (l : List (Int × Bool)) : ∀ (i : Nat) (h : i < l.length) (x : Bool), (rCells l).set (i * 2 + 1) (.bool x) = rCells (l.set i (l[i].1, x)) := by
  induction l with
  | nil => intro i h; simp at h
  | cons y l ih =>
    intro i h x
    have e : ∀ (z : Int × Bool) (m : List (Int × Bool)), rCells (z :: m) = .int .i64 z.1 :: .bool z.2 :: rCells m := fun _ _ => rfl
    cases i with
    | zero => simp [e]
    | succ i =>
      rw [e, show (i + 1) * 2 + 1 = i * 2 + 1 + 1 + 1 from by omega]
      simp only [List.set_cons_succ]
      rw [ih i (by simpa using h) x]
      rfl

/-- A worker here, a worker there. -/
structure WkOk (x : Nat × Nat) (y : Int × Bool) : Prop where
  gone : y.2 = decide (x.1 = 2)
  idle : x.1 = 0 → y.1 = -1
  busy : x.1 = 1 → y.1 = x.2
  lo : -1 ≤ y.1
  hi : y.1 ≤ 65536
structure Wks (ws : List (Nat × Nat)) (rs : List (Int × Bool)) : Prop where
  len : rs.length = ws.length
  nth : ∀ (i : Nat) (h : i < ws.length) (h' : i < rs.length), WkOk ws[i] rs[i]
theorem Wks.set {ws : List (Nat × Nat)} {rs : List (Int × Bool)} (h : Wks ws rs) (i : Nat) (x : Nat × Nat) (y : Int × Bool) (hx : WkOk x y) : Wks (ws.set i x) (rs.set i y) := by
  refine ⟨by simp [h.len], fun k hk hk' => ?_⟩
  rw [List.getElem_set, List.getElem_set]
  split
  · exact hx
  · exact h.nth k _ _

structure RV where
  lv : LV
  rs : List (Int × Bool)

def RefIs (w : World) (b : Nat) (s : LS) (q : RV) : Prop :=
  w.heap[b]? = some (.cells #[.int .i64 s.jobs, .int .i64 s.room, .int .i64 s.next, .bool s.shut, q.lv.cv, .bool s.shut, q.lv.wv, .bool (decide (s.out ≠ 0)), q.lv.av, .int .i64 s.out, .bool s.canc, .int .i64 s.made, .int .i64 s.top] 64 (0, 0)) ∧
  RowIs w 3 1 q.lv.cv s.ch.length (iCells s.ch) ∧ RowIs w 66 2 q.lv.wv q.rs.length (rCells q.rs) ∧ RowIs w 3 1 q.lv.av s.ans.length (iCells s.ans) ∧ (q.lv.foot b).Nodup ∧ s.ok ∧ Wks s.ws q.rs

theorem RefIs.chg {w w' : World} {b : Nat} {s : LS} {q : RV} {F : List Nat} (h : RefIs w b s q) (hc : Chg F w w') (hF : ∀ k ∈ q.lv.foot b, k ∉ F) : RefIs w' b s q := by
  obtain ⟨h1, h2, h3, h4, h5⟩ := h
  exact ⟨hc.at h1 (hF _ (by simp [LV.foot])), h2.chg hc (fun g hg => hF _ (by simp [LV.foot, hg])), h3.chg hc (fun g hg => hF _ (by simp [LV.foot, hg])), h4.chg hc (fun g hg => hF _ (by simp [LV.foot, hg])), h5⟩
theorem RefIs.chg0 {w w' : World} {b : Nat} {s : LS} {q : RV} (h : RefIs w b s q) (hc : Chg [] w w') : RefIs w' b s q := h.chg hc (by simp)
theorem RefIs.lt {w : World} {b : Nat} {s : LS} {q : RV} (h : RefIs w b s q) : ∀ k ∈ q.lv.foot b, k < w.heap.size := by
  obtain ⟨h1, h2, h3, h4, _⟩ := h
  intro k hk
  simp only [LV.foot, List.mem_append, List.mem_cons, Option.mem_toList] at hk
  rcases hk with ((rfl | hk) | hk) | hk
  · exact blk_lt h1
  · exact h2.lt k hk
  · exact h3.lt k hk
  · exact h4.lt k hk
theorem RefIs.cells {w : World} {b : Nat} {s : LS} {q : RV} (h : RefIs w b s q) :
    w.cell? ⟨b, 0, none⟩ = some (.int .i64 s.jobs) ∧ w.cell? ⟨b, 1, none⟩ = some (.int .i64 s.room) ∧ w.cell? ⟨b, 2, none⟩ = some (.int .i64 s.next) ∧ w.cell? ⟨b, 3, none⟩ = some (.bool s.shut) ∧ w.cell? ⟨b, 4, none⟩ = some q.lv.cv ∧ w.cell? ⟨b, 5, none⟩ = some (.bool s.shut) ∧ w.cell? ⟨b, 6, none⟩ = some q.lv.wv ∧
    w.cell? ⟨b, 7, none⟩ = some (.bool (decide (s.out ≠ 0))) ∧ w.cell? ⟨b, 8, none⟩ = some q.lv.av ∧ w.cell? ⟨b, 9, none⟩ = some (.int .i64 s.out) ∧ w.cell? ⟨b, 10, none⟩ = some (.bool s.canc) ∧ w.cell? ⟨b, 11, none⟩ = some (.int .i64 s.made) ∧ w.cell? ⟨b, 12, none⟩ = some (.int .i64 s.top) :=
  ⟨blk_cell h.1 0 rfl, blk_cell h.1 1 rfl, blk_cell h.1 2 rfl, blk_cell h.1 3 rfl, blk_cell h.1 4 rfl, blk_cell h.1 5 rfl, blk_cell h.1 6 rfl, blk_cell h.1 7 rfl, blk_cell h.1 8 rfl, blk_cell h.1 9 rfl, blk_cell h.1 10 rfl, blk_cell h.1 11 rfl, blk_cell h.1 12 rfl⟩
theorem RefIs.worker {w : World} {b : Nat} {s : LS} {q : RV} (h : RefIs w b s q) {k : Nat} (hk : k < s.ws.length) :
    ∃ g o cap, q.lv.wv = .slice (some ⟨g, o, none⟩) s.ws.length cap ∧ s.ws.length ≤ cap ∧ ∃ y : Int × Bool, WkOk s.ws[k] y ∧ w.cell? ⟨g, o + k * 2, none⟩ = some (.int .i64 y.1) ∧ w.cell? ⟨g, o + k * 2 + 1, none⟩ = some (.bool y.2) := by
  have hW := h.2.2.2.2.2.2
  have hr := h.2.2.1
  rw [hW.len] at hr
  obtain ⟨g, o, cap, hv, hc, _⟩ := hr.ptr (by omega)
  rw [hv] at hr
  have hk' : k < q.rs.length := by rw [hW.len]; exact hk
  obtain ⟨r1, r2⟩ := rCells_at q.rs k hk'
  refine ⟨g, o, cap, hv, hc, q.rs[k], hW.nth k hk hk', hr.cell r1, ?_⟩
  have := hr.cell r2
  rw [← Nat.add_assoc] at this
  exact this
theorem RefIs.slice {w : World} {b : Nat} {s : LS} {q : RV} (h : RefIs w b s q) : ∃ a cap, q.lv.wv = .slice a s.ws.length cap := by
  have hr := h.2.2.1
  rw [h.2.2.2.2.2.2.len] at hr
  obtain ⟨a, cap, hv, _⟩ := hr.slice
  exact ⟨a, cap, hv⟩

set_option maxRecDepth 100000 in
theorem rgauge_calls (w : World) (b : Nat) (s : LS) (q : RV) (h : RefIs w b s q) : Calls Try.prog 47 #[.pointer (some ⟨b, 0, none⟩)] w fun e w' => e = .returned (.int .i64 s.gauge) ∧ w' = w := by
  rw [← cnt_gauge]
  obtain ⟨c0, c1, c2, c3, c4, c5, c6, c7, c8, c9, c10, c11, c12⟩ := h.cells
  have hbl := World.block_lt_of_cell? _ _ c0
  have hwl : s.ws.length ≤ 64 := h.2.2.2.2.2.1.ws
  obtain ⟨wa, wcap, hwv⟩ := h.slice
  have hwk := fun (k : Nat) (hk : k < s.ws.length) => h.worker hk
  rw [hwv] at c6 hwk
  have HV := Lib.hid hwv
  have HH := Lib.hid h
  clear hwv h
  go_enter Try.func47, Try.ntmps47
  go_wp2
  go_loopg [3, 4] s.ws.length (fun g n i wr => ∃ k : Nat, k ≤ s.ws.length ∧ g = s.ws.length - k ∧ i = .int .i64 k ∧ n = .int .i64 (cnt 1 (s.ws.take k)) ∧ wr = w)
  case atStart => exact ⟨0, Nat.zero_le _, by omega, rfl, rfl, rfl⟩
  case round =>
    obtain ⟨k, hk, hgk, rfl, rfl, rfl⟩ := hrel
    by_cases hlt : k < s.ws.length
    · skip
      have hlt' : k < s.ws.length := hlt
      obtain ⟨wg, wo, wc, hwe, _, y, hy, hw0, hw1⟩ := hwk k hlt'
      simp only [Value.slice.injEq, true_and] at hwe
      obtain ⟨rfl, rfl⟩ := hwe
      have hwgl := World.block_lt_of_cell? _ _ hw0
      have htake := cnt_take 1 s.ws k hlt'
      have hcl : cnt 1 (s.ws.take k) ≤ 64 := Nat.le_trans (cnt_le _ _) (by rw [List.length_take]; omega)
      have hx2 : s.ws[k].1 ≤ 2 := (HH.out.2.2.2.2.2.1.st _ (List.getElem_mem hlt')).1
      have HT := Lib.hid htake
      have HY := Lib.hid hy
      clear htake hwk hy
      generalize s.ws[k] = x at *
      generalize cnt 1 (s.ws.take k) = m at *
      obtain ⟨yj, yg⟩ := y
      dsimp only at hw0 hw1
      by_cases e1 : x.1 = 1
      · have hj := HY.out.busy e1
        have hg : yg = false := by rw [show yg = decide (x.1 = 2) from HY.out.gone]; simp [e1]
        subst hg
        have hj : yj = (x.2 : Int) := hj
        subst hj
        go_wp2
        go_roundg (s.ws.length - (k + 1))
        case measure => omega
        case rel => exact ⟨k + 1, by omega, rfl, by go_num, by rw [HT.out, if_pos (by omega)]; go_num, rfl⟩
      · by_cases e0 : x.1 = 0
        · obtain rfl : yj = -1 := HY.out.idle e0
          go_wp2
          go_roundg (s.ws.length - (k + 1))
          case measure => omega
          case rel => exact ⟨k + 1, by omega, rfl, by go_num, by rw [HT.out, if_neg (by omega)]; rfl, rfl⟩
        · have hg : yg = true := by rw [show yg = decide (x.1 = 2) from HY.out.gone]; simp; omega
          subst hg
          by_cases ej : 0 ≤ yj
          · have dj : decide (0 ≤ yj) = true := by simp [ej]
            go_wp2
            go_roundg (s.ws.length - (k + 1))
            case measure => omega
            case rel => exact ⟨k + 1, by omega, rfl, by go_num, by rw [HT.out, if_neg (by omega)]; rfl, rfl⟩
          · have dj : decide (0 ≤ yj) = false := by simp; omega
            go_wp2
            go_roundg (s.ws.length - (k + 1))
            case measure => omega
            case rel => exact ⟨k + 1, by omega, rfl, by go_num, by rw [HT.out, if_neg (by omega)]; rfl, rfl⟩
    · obtain rfl : k = s.ws.length := by omega
      go_wp2
      go_ret
      rw [List.take_length]
      exact ⟨rfl, rfl⟩

set_option maxRecDepth 100000 in
theorem rgone_calls (w : World) (b : Nat) (s : LS) (q : RV) (h : RefIs w b s q) : Calls Try.prog 48 #[.pointer (some ⟨b, 0, none⟩)] w fun e w' => e = .returned (.int .i64 s.gone) ∧ w' = w := by
  have hl : s.left ≤ 64 := by rw [← cnt_left]; exact Nat.le_trans (cnt_le _ _) h.2.2.2.2.2.1.ws
  have hP : (s.shut = false ∧ s.out = 0 ∧ s.gone = s.left) ∨ (s.shut = false ∧ ¬ s.out = 0 ∧ s.gone = s.left + 1) ∨ (s.shut = true ∧ s.out = 0 ∧ s.gone = s.left + 1) ∨ (s.shut = true ∧ ¬ s.out = 0 ∧ s.gone = s.left + 1 + 1) := by
    unfold LS.gone
    cases s.shut <;> by_cases e : s.out = 0 <;> simp [e]
  have HL := Lib.hid (cnt_left s)
  have HP := Lib.hid hP
  clear hP
  obtain ⟨c0, c1, c2, c3, c4, c5, c6, c7, c8, c9, c10, c11, c12⟩ := h.cells
  have hbl := World.block_lt_of_cell? _ _ c0
  have hwl : s.ws.length ≤ 64 := h.2.2.2.2.2.1.ws
  obtain ⟨wa, wcap, hwv⟩ := h.slice
  have hwk := fun (k : Nat) (hk : k < s.ws.length) => h.worker hk
  rw [hwv] at c6 hwk
  have HV := Lib.hid hwv
  have HH := Lib.hid h
  clear hwv h
  go_enter Try.func48, Try.ntmps48
  go_wp2
  go_loopg [3, 4] s.ws.length (fun g n i wr => ∃ k : Nat, k ≤ s.ws.length ∧ g = s.ws.length - k ∧ i = .int .i64 k ∧ n = .int .i64 (cnt 2 (s.ws.take k)) ∧ wr = w)
  case atStart => exact ⟨0, Nat.zero_le _, by omega, rfl, rfl, rfl⟩
  case round =>
    obtain ⟨k, hk, hgk, rfl, rfl, rfl⟩ := hrel
    by_cases hlt : k < s.ws.length
    · skip
      have hlt' : k < s.ws.length := hlt
      obtain ⟨wg, wo, wc, hwe, _, y, hy, hw0, hw1⟩ := hwk k hlt'
      simp only [Value.slice.injEq, true_and] at hwe
      obtain ⟨rfl, rfl⟩ := hwe
      have hwgl := World.block_lt_of_cell? _ _ hw0
      have htake := cnt_take 2 s.ws k hlt'
      have hcl : cnt 2 (s.ws.take k) ≤ 64 := Nat.le_trans (cnt_le _ _) (by rw [List.length_take]; omega)
      have hx2 : s.ws[k].1 ≤ 2 := (HH.out.2.2.2.2.2.1.st _ (List.getElem_mem hlt')).1
      have HT := Lib.hid htake
      have HY := Lib.hid hy
      clear htake hwk hy
      generalize s.ws[k] = x at *
      generalize cnt 2 (s.ws.take k) = m at *
      obtain ⟨yj, yg⟩ := y
      dsimp only at hw0 hw1
      by_cases e2 : x.1 = 2
      · have hg : yg = true := by rw [show yg = decide (x.1 = 2) from HY.out.gone]; simp [e2]
        subst hg
        go_wp2
        go_roundg (s.ws.length - (k + 1))
        case measure => omega
        case rel => exact ⟨k + 1, by omega, rfl, by go_num, by rw [HT.out, if_pos (by omega)]; go_num, rfl⟩
      · have hg : yg = false := by rw [show yg = decide (x.1 = 2) from HY.out.gone]; simp [e2]
        subst hg
        go_wp2
        go_roundg (s.ws.length - (k + 1))
        case measure => omega
        case rel => exact ⟨k + 1, by omega, rfl, by go_num, by rw [HT.out, if_neg (by omega)]; rfl, rfl⟩
    · obtain rfl : k = s.ws.length := by omega
      rw [List.take_length, HL.out]
      clear hwk
      rcases HP.out with ⟨e1, e2, e3⟩ | ⟨e1, e2, e3⟩ | ⟨e1, e2, e3⟩ | ⟨e1, e2, e3⟩
      all_goals
        have E3 := Lib.hid e3
        clear e3
        rw [e1] at c3
        have c7' : wr.cell? ⟨b, 7, none⟩ = some (.bool _) := c7
        simp only [e2, ne_eq, not_true_eq_false, not_false_eq_true, decide_true, decide_false] at c7
        clear c7'
        go_wp2
        go_ret
        rw [E3.out]
        exact ⟨by go_num, rfl⟩

theorem rcancel_no (w : World) (b : Nat) (s : LS) (q : RV) (h : RefIs w b s q) (hc : s.canc = true) : Calls Try.prog 26 #[.pointer (some ⟨b, 0, none⟩)] w fun e w' => e = .returned (.int .i64 130) ∧ w' = w := by
  obtain ⟨c0, c1, c2, c3, c4, c5, c6, c7, c8, c9, c10, c11, c12⟩ := h.cells
  rw [hc] at c10
  go_enter Try.func26, Try.ntmps26
  go_wp2
  go_ret
  exact ⟨rfl, rfl⟩
/-- The reference's one cell set anew. -/
theorem RefIs.set {w : World} {b : Nat} {s s' : LS} {q : RV} (h : RefIs w b s q) (i : Nat) (u : Value) (hi : i < 13) (hne : i ≠ 4 ∧ i ≠ 6 ∧ i ≠ 8)
    (hu : #[.int .i64 s'.jobs, .int .i64 s'.room, .int .i64 s'.next, .bool s'.shut, q.lv.cv, .bool s'.shut, q.lv.wv, .bool (decide (s'.out ≠ 0)), q.lv.av, .int .i64 s'.out, .bool s'.canc, .int .i64 s'.made, .int .i64 s'.top] = (#[.int .i64 s.jobs, .int .i64 s.room, .int .i64 s.next, .bool s.shut, q.lv.cv, .bool s.shut, q.lv.wv, .bool (decide (s.out ≠ 0)), q.lv.av, .int .i64 s.out, .bool s.canc, .int .i64 s.made, .int .i64 s.top] : Array Value).setIfInBounds i u)
    (hch : s'.ch = s.ch) (hws : s'.ws = s.ws) (hans : s'.ans = s.ans) (hok : s'.ok) : RefIs (w.setCell ⟨b, i, none⟩ u) b s' q := by
  have hC : Chg [b] w (w.setCell ⟨b, i, none⟩ u) := (Chg.refl [b] w).setCell (p := ⟨b, i, none⟩) (by simp) u
  have hn := h.2.2.2.2.1
  have hnb : ∀ k ∈ q.lv.cv.ownBlock.toList ++ q.lv.wv.ownBlock.toList ++ q.lv.av.ownBlock.toList, k ≠ b := by
    intro k hk e
    subst e
    simp only [LV.foot, List.cons_append, List.nodup_cons] at hn
    exact hn.1 hk
  refine ⟨?_, ?_, ?_, ?_, hn, hok, by rw [hws]; exact h.2.2.2.2.2.2⟩
  · have := blk_set h.1 i u
    rw [hu]
    exact this
  · rw [hch]
    exact h.2.1.chg hC (fun g hg => by have := hnb g (by simp [hg]); simpa using this)
  · exact h.2.2.1.chg hC (fun g hg => by have := hnb g (by simp [hg]); simpa using this)
  · rw [hans]
    exact h.2.2.2.1.chg hC (fun g hg => by have := hnb g (by simp [hg]); simpa using this)
theorem rcancel_yes (w : World) (b : Nat) (s : LS) (q : RV) (h : RefIs w b s q) (hc : s.canc = false) : Calls Try.prog 26 #[.pointer (some ⟨b, 0, none⟩)] w fun e w' => e = .returned (.int .i64 0) ∧ RefIs w' b { s with canc := true } q ∧ Chg [b] w w' := by
  obtain ⟨c0, c1, c2, c3, c4, c5, c6, c7, c8, c9, c10, c11, c12⟩ := h.cells
  rw [hc] at c10
  have hb := World.block_lt_of_cell? _ _ c0
  have hf := blk_frozen h.1 10
  go_enter Try.func26, Try.ntmps26
  go_wp2
  go_ret
  have hk := h.2.2.2.2.2.1
  exact ⟨rfl, h.set (s' := { s with canc := true }) 10 _ (by omega) (by omega) rfl rfl rfl rfl ⟨hk.jobs, hk.room, hk.next, hk.ws, hk.st, hk.ch, hk.ans, hk.out, hk.top, hk.made⟩, (Chg.refl _ _).setCell (by simp) _⟩
end Go.Proofs.Ytfmdghijbkddpaa

/- LoomPlays: what it needs beside: numbers of any sign. -/
import Derived.Test.YtfmdghijbkddpaaLmRm
namespace Go.Proofs.Ytfmdghijbkddpaa
open Go.RowKit
set_option linter.unusedVariables false
set_option linter.unusedSimpArgs false

theorem playF_keep (ps : List Int) (cn : Int) : ∀ (f t : Nat) (s : LS), s.good → s.ends → (LS.playF ps cn f t s).2.good ∧ (LS.playF ps cn f t s).2.ends
  | 0, t, s, hg, he => ⟨hg, he⟩
  | f + 1, t, s, hg, he => by
    obtain ⟨h1, h2, _⟩ := cAt_keep s cn t hg he
    rw [LS.playF]
    split
    · exact playF_keep ps cn f _ _ (mvS_keep _ _ h1 h2).1 (mvS_keep _ _ h1 h2).2
    · exact ⟨h1, h2⟩
theorem playF_le (ps : List Int) (cn : Int) : ∀ (f t : Nat) (s : LS), (LS.playF ps cn f t s).1 ≤ t + f
  | 0, t, s => Nat.le_refl _
  | f + 1, t, s => by
    rw [LS.playF]
    split
    · have := playF_le ps cn f (t + 1) ((s.cAt cn t).mvS ((s.cAt cn t).pick ps t))
      omega
    · simp only; omega

theorem NsIs.cellAt {w : World} {a : Option Addr} {cap : Nat} {ps : List Int} (h : NsIs .i64 w (.slice a ps.length cap) ps) (t : Nat) (ht : t < ps.length) : ∃ pb po, a = some ⟨pb, po, none⟩ ∧ w.cell? ⟨pb, po + t, none⟩ = some (.int .i64 ps[t]) := by
  obtain ⟨_, a', cap', hv, hr⟩ := h
  simp only [Value.slice.injEq, true_and] at hv
  obtain ⟨rfl, rfl⟩ := hv
  rcases hr with e | ⟨pb, po, rfl, hpb, hcl⟩
  · rw [e] at ht; simp at ht
  · exact ⟨pb, po, rfl, hcl t ht⟩
theorem NsIs.shape {w : World} {v : Value} {ps : List Int} (h : NsIs .i64 w v ps) : ∃ a cap, v = .slice a ps.length cap := by
  obtain ⟨_, a, c, hv, _⟩ := h
  exact ⟨a, c, hv⟩
set_option maxRecDepth 100000 in
theorem listi_calls (w : World) (v u : Value) (l : List Int) (hl : l.length ≤ 100000) (hv : NsIs .i64 w v l) (hu : NsIs .i64 w u l) :
    Calls Try.prog 31 #[v, u] w fun e w' => e = .returned (.bool true) ∧ Chg [] w w' := by
  obtain ⟨va, vc, rfl⟩ := hv.shape
  obtain ⟨ua, uc, rfl⟩ := hu.shape
  have HV := Lib.hid hv
  have HU := Lib.hid hu
  clear hv hu
  go_enter Try.func31, Try.ntmps31
  go_upto_region 4 with (fail)
  go_loopg [5] l.length (fun g ii wx => ∃ i : Nat, i ≤ l.length ∧ g = l.length - i ∧ ii = .int .i64 i ∧ Chg [] w wx)
  case atStart => exact ⟨0, by omega, by omega, rfl, Chg.refl _ _⟩
  case round =>
    obtain ⟨i, hi, hgi, rfl, hcw⟩ := hrel
    by_cases hlt : i < l.length
    · have hlt' : i < l.length := hlt
      obtain ⟨vg, vo, rfl, y1⟩ := (HV.out.chg hcw (by simp)).cellAt i hlt'
      obtain ⟨ug, uo, rfl, y2⟩ := (HU.out.chg hcw (by simp)).cellAt i hlt'
      have z1 := World.block_lt_of_cell? _ _ y1
      have z2 := World.block_lt_of_cell? _ _ y2
      have hwf := wf_i64 (HV.out.1 l[i] (List.getElem_mem hlt'))
      generalize l[i] = x at *
      go_upto_region 6 with (fail)
      go_quiet (fail)
      go_wp2
      go_roundg (l.length - (i + 1))
      case measure => omega
      case rel => exact ⟨i + 1, by omega, rfl, by go_num, hcw.drewN _⟩
    · obtain rfl : i = l.length := by omega
      go_wp2
      go_ret
      exact ⟨rfl, hcw⟩

def zCells (l : List Int) : List Value := l.map fun n => .int .i64 n
/-- A copy of a list that came in, one number behind it. -/
theorem copy_run (w : World) (v : Value) (ps : List Int) (hv : NsIs .i64 w v ps) (hl : ps.length ≤ 1000) :
    ∃ a1 c1 w1, (apX #[34, 34] 34 #[.slice (some ⟨w.heap.size, 0, none⟩) 0 0, v]).run Try.prog (w.alloc (.cells #[] 3)) = .ok (.slice a1 ps.length c1) w1 ∧
      ∃ g o c2 w2, (apX #[34, 34] 34 #[.slice a1 ps.length c1, .slice (some ⟨w1.heap.size, 0, none⟩) 1 1]).run Try.prog (w1.alloc (.cells #[.int .i64 171] 3)) = .ok (.slice (some ⟨g, o, none⟩) (ps.length + 1) c2) w2 ∧
        RowIs w2 3 1 (.slice (some ⟨g, o, none⟩) (ps.length + 1) c2) (ps.length + 1) (zCells (ps ++ [171])) ∧ ps.length + 1 ≤ c2 ∧ c2 ≤ maxLen ∧ Chg [] w w2 ∧ w.heap.size ≤ g := by
  have hc0 : Chg [] w (w.alloc (.cells #[] 3)) := (Chg.refl _ _).alloc _
  have hsz : (w.alloc (.cells #[] 3)).heap.size = w.heap.size + 1 := World.size_alloc _ _
  have hE : RowIs (w.alloc (.cells #[] 3)) 3 1 (.slice (some ⟨w.heap.size, 0, none⟩) 0 0) 0 [] := ⟨rfl, .inr ⟨_, 0, 0, #[], rfl, blk_new w _, by omega, by unfold maxLen; omega, by simp, rfl⟩⟩
  obtain ⟨i, hi, hz, hs, hb⟩ := infoOf i_int
  obtain ⟨va, vcap, rfl⟩ := hv.shape
  have h1 : ∃ v1 w1, (apX #[34, 34] 34 #[.slice (some ⟨w.heap.size, 0, none⟩) 0 0, .slice va ps.length vcap]).run Try.prog (w.alloc (.cells #[] 3)) = .ok v1 w1 ∧ RowIs w1 3 1 v1 ps.length (zCells ps) ∧ Chg [w.heap.size] (w.alloc (.cells #[] 3)) w1 ∧ (∀ k, v1.ownBlock = some k → w.heap.size ≤ k) := by
    cases va with
    | none =>
      have hn : ps = [] := by
        cases hp : ps with
        | nil => rfl
        | cons x l =>
          obtain ⟨pb, po, e, _⟩ := hv.cellAt 0 (by rw [hp]; simp)
          cases e
      subst hn
      refine ⟨.slice (some ⟨w.heap.size, 0, none⟩) 0 0, _, ?_, hE, Chg.refl _ _, by intro k hk; simp [Value.ownBlock] at hk; omega⟩
      simp [apX, Builtin.append_, run_underlying u_ints, sizeOf, typeInfo, hi, Builtin.lenOf, Builtin.firstCells, loadCells, loadCellsFrom, storeCells]
    | some a =>
      have hcells : ∀ j u, (zCells ps)[j]? = some u → (w.alloc (.cells #[] 3)).cell? (a.add j) = some u := by
        intro j u hu
        have hj : j < ps.length := by
          have := List.getElem?_eq_some_iff.1 hu
          obtain ⟨h, _⟩ := this
          simpa [zCells] using h
        obtain ⟨pb, po, e, hcl⟩ := (hv.chg hc0 (by simp)).cellAt j hj
        simp only [Option.some.injEq] at e
        subst e
        rw [Addr.add_mid]
        have : u = .int .i64 ps[j] := by
          unfold zCells at hu
          rw [List.getElem?_map, List.getElem?_eq_getElem hj] at hu
          simpa using hu.symm
        rw [this]
        exact hcl
      obtain ⟨v1, w1, q1, q2, q3, q4⟩ := hE.app (P := Try.prog) 34 34 i _ 8 u_ints hi hz hs hb rfl (by omega) a ps.length vcap (zCells ps) (by simp [zCells]) hcells
        (by intro u hu; simp [zCells] at hu; obtain ⟨n, _, rfl⟩ := hu; rfl) (by unfold maxLen; omega) (by omega)
      refine ⟨v1, w1, q1, by simpa using q2, by simpa [Value.ownBlock] using q3, fun k hk => ?_⟩
      rcases q4 with e | e
      · rw [e] at hk; simp [Value.ownBlock] at hk; omega
      · rw [e, hsz] at hk; simp at hk; omega
  obtain ⟨v1, w1, q1, q2, q3, q4⟩ := h1
  obtain ⟨a1, c1, rfl, _⟩ := q2.slice
  refine ⟨a1, c1, w1, q1, ?_⟩
  have hc1 : Chg [] w1 (w1.alloc (.cells #[.int .i64 171] 3)) := (Chg.refl _ _).alloc _
  have hs1 := q3.size
  obtain ⟨v2, w2, r1, r2, r3, r4⟩ := (q2.chg0 hc1).app (P := Try.prog) 34 34 i _ 8 u_ints hi hz hs hb rfl (by omega) ⟨w1.heap.size, 0, none⟩ 1 1 [.int .i64 171] rfl
    (by
      intro k u hu
      rw [Addr.add_mid, Nat.zero_add, cell_of_row _ _ _ _ _ _ (blk_new w1 _)]
      simpa using hu)
    (by intro u hu; simp at hu; subst hu; rfl) (by unfold maxLen; omega) (by omega)
  obtain ⟨g, o, c2, rfl, hcc, hown⟩ := r2.ptr (by omega)
  have hcm : c2 ≤ maxLen := by
    obtain ⟨_, ⟨x, _⟩ | ⟨g', o', cap', cur, x, _, _, hm, _⟩⟩ := r2
    · cases x
    · simp at x; omega
  have hzz : zCells ps ++ [.int .i64 171] = zCells (ps ++ [171]) := by simp [zCells]
  rw [hzz] at r2
  refine ⟨g, o, c2, w2, r1, r2, hcc, hcm, ?_, ?_⟩
  · refine ((hc0.trans q3 (fun x hx => .inr (by simp at hx; omega))).nil_trans hc1).trans r3 (fun x hx => .inr ?_)
    exact q4 x (by simpa using hx)
  · rcases r4 with e | e
    · exact q4 g (by rw [← e]; rfl)
    · have : g = (w1.alloc (.cells #[.int .i64 171] 3)).heap.size := by simpa [Value.ownBlock] using e
      rw [this, World.size_alloc]
      omega
end Go.Proofs.Ytfmdghijbkddpaa

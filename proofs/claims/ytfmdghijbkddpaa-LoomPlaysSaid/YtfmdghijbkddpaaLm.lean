/- The loom: what it is in memory; the small closures. -/
import Derived.Test.YtfmdghijbkddpaaRow
import Derived.Test.YtfmdghijbkddpaaLmP
import Derived.Test.YtfmdghijbkddpaaProg
import Derived.Deep.LoopGhost
import Derived.Deep.RegionWith
namespace Go.Proofs.Ytfmdghijbkddpaa
open Go.RowKit
set_option linter.unusedVariables false
set_option linter.unusedSimpArgs false

def wCells (l : List (Nat × Nat)) : List Value := l.flatMap fun x => [.int .i64 x.1, .int .i64 x.2]
def iCells (l : List Nat) : List Value := l.map fun (n : Nat) => .int .i64 n
def mCells (l : List Mv) : List Value := l.flatMap fun m => [.int .i64 m.kind, .int .i64 m.who, .int .i64 m.job]

/-- Where the loom's three lists lie. -/
structure LV where
  cv : Value
  wv : Value
  av : Value

def LV.foot (q : LV) (b : Nat) : List Nat := b :: q.cv.ownBlock.toList ++ q.wv.ownBlock.toList ++ q.av.ownBlock.toList

structure LS.ok (s : LS) : Prop where
  jobs : s.jobs ≤ 65536
  room : s.room ≤ 65536
  next : s.next ≤ s.jobs
  ws : s.ws.length ≤ 64
  st : ∀ x ∈ s.ws, x.1 ≤ 2 ∧ x.2 ≤ 65536
  ch : s.ch.length ≤ 65536 ∧ ∀ j ∈ s.ch, j ≤ 65536
  ans : s.ans.length ≤ 65536 ∧ ∀ j ∈ s.ans, j ≤ 65536
  out : s.out ≤ 2
  top : s.top ≤ 64
  made : s.made ≤ 1000000

def LmIs (w : World) (b : Nat) (s : LS) (q : LV) : Prop :=
  w.heap[b]? = some (.cells #[.int .i64 s.jobs, .int .i64 s.room, .int .i64 s.next, q.cv, .bool s.shut, q.wv, q.av, .int .i64 s.out, .bool s.canc, .int .i64 s.top, .int .i64 s.made] 51 (0, 0)) ∧
  RowIs w 3 1 q.cv s.ch.length (iCells s.ch) ∧ RowIs w 56 2 q.wv s.ws.length (wCells s.ws) ∧ RowIs w 3 1 q.av s.ans.length (iCells s.ans) ∧ (q.foot b).Nodup ∧ s.ok

theorem LmIs.chg {w w' : World} {b : Nat} {s : LS} {q : LV} {F : List Nat} (h : LmIs w b s q) (hc : Chg F w w') (hF : ∀ k ∈ q.foot b, k ∉ F) : LmIs w' b s q := by
  obtain ⟨h1, h2, h3, h4, h5⟩ := h
  exact ⟨hc.at h1 (hF _ (by simp [LV.foot])), h2.chg hc (fun g hg => hF _ (by simp [LV.foot, hg])), h3.chg hc (fun g hg => hF _ (by simp [LV.foot, hg])), h4.chg hc (fun g hg => hF _ (by simp [LV.foot, hg])), h5⟩
theorem LmIs.chg0 {w w' : World} {b : Nat} {s : LS} {q : LV} (h : LmIs w b s q) (hc : Chg [] w w') : LmIs w' b s q := h.chg hc (by simp)
theorem LmIs.lt {w : World} {b : Nat} {s : LS} {q : LV} (h : LmIs w b s q) : ∀ k ∈ q.foot b, k < w.heap.size := by
  obtain ⟨h1, h2, h3, h4, _⟩ := h
  intro k hk
  simp only [LV.foot, List.mem_append, List.mem_cons, Option.mem_toList] at hk
  rcases hk with ((rfl | hk) | hk) | hk
  · exact blk_lt h1
  · exact h2.lt k hk
  · exact h3.lt k hk
  · exact h4.lt k hk

theorem wCells_length (l : List (Nat × Nat)) : (wCells l).length = l.length * 2 := by
  induction l with
  | nil => rfl
  | cons x l ih => simp only [wCells, List.flatMap_cons, List.length_append, List.length_cons] at ih ⊢; simp [ih]; omega
theorem wCells_at (l : List (Nat × Nat)) : ∀ (i : Nat) (hi : i < l.length), (wCells l)[i * 2]? = some (.int .i64 l[i].1) ∧ (wCells l)[i * 2 + 1]? = some (.int .i64 l[i].2) := by
  induction l with
  | nil => intro i hi; simp at hi
  | cons x l ih =>
    intro i hi
    have e : wCells (x :: l) = .int .i64 x.1 :: .int .i64 x.2 :: wCells l := rfl
    cases i with
    | zero => exact ⟨rfl, rfl⟩
    | succ i =>
      have := ih i (by simpa using hi)
      rw [e, show (i + 1) * 2 = i * 2 + 1 + 1 from by omega]
      simpa using this
theorem mCells_length (l : List Mv) : (mCells l).length = l.length * 3 := by
  induction l with
  | nil => rfl
  | cons x l ih => simp only [mCells, List.flatMap_cons, List.length_append, List.length_cons] at ih ⊢; simp [ih]; omega
theorem mCells_append (a b : List Mv) : mCells (a ++ b) = mCells a ++ mCells b := by simp [mCells]
theorem mCells_at (l : List Mv) : ∀ (i : Nat) (hi : i < l.length), (mCells l)[i * 3]? = some (.int .i64 l[i].kind) ∧ (mCells l)[i * 3 + 1]? = some (.int .i64 l[i].who) ∧ (mCells l)[i * 3 + 2]? = some (.int .i64 l[i].job) := by
  induction l with
  | nil => intro i hi; simp at hi
  | cons x l ih =>
    intro i hi
    have e : mCells (x :: l) = .int .i64 x.kind :: .int .i64 x.who :: .int .i64 x.job :: mCells l := rfl
    cases i with
    | zero => exact ⟨rfl, rfl, rfl⟩
    | succ i =>
      have := ih i (by simpa using hi)
      rw [e, show (i + 1) * 3 = i * 3 + 1 + 1 + 1 from by omega]
      simpa using this

/-- The list of moves in the making. -/
def OutIs (w : World) (ob : Nat) (v : Value) (ms : List Mv) : Prop :=
  w.heap[ob]? = some (.cells #[v] 28 (0, 0)) ∧ RowIs w 31 3 v ms.length (mCells ms) ∧ v.ownBlock ≠ some ob

theorem u_ints : Try.prog.underlying 34 = some (.slice 3) := by kernel_rfl
theorem u_Moves : Try.prog.underlying 28 = some (.slice 31) := by kernel_rfl
theorem i_int : (Try.prog.info? 3).map (fun i => (i.zero, i.size, i.bytes)) = some (some (.int .i64 0), 1, 8) := by kernel_rfl
theorem i_Mv : (Try.prog.info? 31).map (fun i => (i.zero, i.size, i.bytes)) = some (some (.agg #[.int .i64 0, .int .i64 0, .int .i64 0]), 3, 24) := by kernel_rfl
theorem infoOf {P : Program} {t : TypeId} {z : Value} {n k : Nat} (h : (P.info? t).map (fun i => (i.zero, i.size, i.bytes)) = some (some z, n, k)) : ∃ i, P.info? t = some i ∧ i.zero = some z ∧ i.size = n ∧ i.bytes = k := by
  cases hi : P.info? t with
  | none => simp [hi] at h
  | some i => simp [hi] at h; exact ⟨i, rfl, h⟩

/-- What one move more makes of the list: the append, in whatever world the new move lies. -/
theorem OutIs.app {w : World} {ob : Nat} {v : Value} {ms : List Mv} (h : OutIs w ob v ms) (hl : ms.length ≤ 100000) (m : Mv) (g : Nat) (hg : w.heap[g]? = some (.cells #[.int .i64 m.kind, .int .i64 m.who, .int .i64 m.job] 31 (0, 0))) :
    ∃ v' w', (apX #[28, 28] 28 #[v, .slice (some ⟨g, 0, none⟩) 1 1]).run Try.prog w = .ok v' w' ∧ RowIs w' 31 3 v' (ms.length + 1) (mCells (ms ++ [m])) ∧ Chg v.ownBlock.toList w w' ∧
      (v'.ownBlock = v.ownBlock ∨ v'.ownBlock = some w.heap.size) ∧ (∃ a cap, v' = .slice a (ms.length + 1) cap) ∧ w'.cell? ⟨ob, 0, none⟩ = some v ∧ w'.frozen? ⟨ob, 0, none⟩ = false ∧ w'.heap[ob]? = some (.cells #[v] 28 (0, 0)) := by
  obtain ⟨h1, h2, h3⟩ := h
  obtain ⟨i, hi, hz, hs, hb⟩ := infoOf i_Mv
  obtain ⟨v', w', q1, q2, q3, q4⟩ := h2.app (P := Try.prog) 28 28 i _ 24 u_Moves hi hz hs hb rfl (by omega) ⟨g, 0, none⟩ 1 1 [.int .i64 m.kind, .int .i64 m.who, .int .i64 m.job] rfl
    (by
      intro j u hu
      rw [Addr.add_mid, Nat.zero_add, cell_of_row _ _ _ _ _ _ hg]
      simpa using hu)
    (by intro u hu; simp at hu; rcases hu with rfl | rfl | rfl <;> rfl) (by unfold maxLen; omega) (by omega)
  have hob := q3.at h1 (by simpa using h3)
  obtain ⟨a, cap, hv, _⟩ := q2.slice
  refine ⟨v', w', q1, ?_, q3, q4, ⟨a, cap, hv⟩, blk_cell hob 0 rfl, blk_frozen hob 0, hob⟩
  rw [mCells_append]
  exact q2

/-! The closures on a worker. -/
theorem none_calls (a c : Int) (w : World) : Calls Try.prog 36 #[.agg #[.int .i64 a, .int .i64 c]] w fun e w' => e = .returned (.int .i64 0) ∧ w' = w.alloc (.cells #[.int .i64 a, .int .i64 c] 56) := by
  go_enter Try.func36, Try.ntmps36
  go_wp2
  go_ret
  exact ⟨rfl, rfl⟩
theorem waits_calls (x : Nat × Nat) (w : World) : Calls Try.prog 37 #[.agg #[.int .i64 x.1, .int .i64 x.2]] w fun e w' => e = .returned (.bool (isIdle x)) ∧ w' = w.alloc (.cells #[.int .i64 x.1, .int .i64 x.2] 56) := by
  obtain ⟨a, c⟩ := x
  have hid : Hid (isIdle (a, c) = (decide (a = 0) && decide (c = 0))) := rfl
  by_cases h1 : a = 0 <;> by_cases h2 : c = 0
  all_goals
    go_enter Try.func37, Try.ntmps37
    go_wp2
    go_ret
    exact ⟨by rw [hid.out]; simp [h1, h2], by simp [h1, h2]⟩
theorem busy_calls (x : Nat × Nat) (w : World) : Calls Try.prog 40 #[.agg #[.int .i64 x.1, .int .i64 x.2]] w fun e w' => e = .returned (.bool (isBusy x)) ∧ w' = w.alloc (.cells #[.int .i64 x.1, .int .i64 x.2] 56) := by
  obtain ⟨a, c⟩ := x
  have hid : Hid (isBusy (a, c) = decide (a = 1)) := rfl
  go_enter Try.func40, Try.ntmps40
  go_wp2
  go_ret
  refine ⟨?_, rfl⟩
  rw [hid.out]
  have e : ((a : Int) == 1) = decide (a = 1) := by rw [Bool.eq_iff_iff]; simp; omega
  rw [← e]
  rfl
theorem bj_calls (x : Nat × Nat) (w : World) : Calls Try.prog 41 #[.agg #[.int .i64 x.1, .int .i64 x.2]] w fun e w' => e = .returned (.int .i64 x.2) ∧ w' = w.alloc (.cells #[.int .i64 x.1, .int .i64 x.2] 56) := by
  go_enter Try.func41, Try.ntmps41
  go_wp2
  go_ret
  exact ⟨rfl, rfl⟩
theorem notl_calls (x : Nat × Nat) (w : World) : Calls Try.prog 42 #[.agg #[.int .i64 x.1, .int .i64 x.2]] w fun e w' => e = .returned (.bool (notLeft x)) ∧ w' = w.alloc (.cells #[.int .i64 x.1, .int .i64 x.2] 56) := by
  obtain ⟨a, c⟩ := x
  have hid : Hid (notLeft (a, c) = decide (a ≠ 2)) := rfl
  go_enter Try.func42, Try.ntmps42
  go_wp2
  go_ret
  refine ⟨?_, rfl⟩
  rw [hid.out]
  have e : ((a : Int) != 2) = decide (a ≠ 2) := by rw [Bool.eq_iff_iff]; simp; omega
  rw [← e]
  rfl
theorem gj_calls (a c g : Int) (gb : Nat) (w : World) (hg : w.cell? ⟨gb, 0, none⟩ = some (.int .i64 g)) : Calls Try.prog 39 #[.agg #[.int .i64 a, .int .i64 c], .pointer (some ⟨gb, 0, none⟩)] w fun e w' => e = .returned (.int .i64 g) ∧ w' = w.alloc (.cells #[.int .i64 a, .int .i64 c] 56) := by
  have hl := World.block_lt_of_cell? _ _ hg
  go_enter Try.func39, Try.ntmps39
  go_wp2
  go_ret
  exact ⟨rfl, rfl⟩
end Go.Proofs.Ytfmdghijbkddpaa

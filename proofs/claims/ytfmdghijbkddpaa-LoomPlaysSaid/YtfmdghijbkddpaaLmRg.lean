/- Four lists of the law's own: two of moves, two of numbers. -/
import Derived.Test.YtfmdghijbkddpaaLmRf
namespace Go.Proofs.Ytfmdghijbkddpaa
open Go.RowKit
set_option linter.unusedVariables false
set_option linter.unusedSimpArgs false

def Apart (u v : Value) : Prop := ∀ k, u.ownBlock = some k → v.ownBlock ≠ some k
theorem Apart.symm {u v : Value} (h : Apart u v) : Apart v u := fun k h1 h2 => h k h2 h1
structure Q4 (w0 W : World) (va vb vc vd : Value) (la lb : List Mv) (lc ld : List Nat) : Prop where
  ra : RowIs W 31 3 va la.length (mCells la)
  rb : RowIs W 31 3 vb lb.length (mCells lb)
  rc : RowIs W 3 1 vc lc.length (iCells lc)
  rd : RowIs W 3 1 vd ld.length (iCells ld)
  chg : Chg [] w0 W
  na : ∀ k, va.ownBlock = some k → w0.heap.size ≤ k
  nb : ∀ k, vb.ownBlock = some k → w0.heap.size ≤ k
  nc : ∀ k, vc.ownBlock = some k → w0.heap.size ≤ k
  nd : ∀ k, vd.ownBlock = some k → w0.heap.size ≤ k
  ab : Apart va vb
  ac : Apart va vc
  ad : Apart va vd
  bc : Apart vb vc
  bd : Apart vb vd
  cd : Apart vc vd
section
variable {w0 W W' : World} {va vb vc vd u : Value} {la lb l' : List Mv} {lc ld m' : List Nat}
theorem Q4.swapA (h : Q4 w0 W va vb vc vd la lb lc ld) : Q4 w0 W vb va vc vd lb la lc ld :=
  ⟨h.rb, h.ra, h.rc, h.rd, h.chg, h.nb, h.na, h.nc, h.nd, h.ab.symm, h.bc, h.bd, h.ac, h.ad, h.cd⟩
theorem Q4.swapC (h : Q4 w0 W va vb vc vd la lb lc ld) : Q4 w0 W va vb vd vc la lb ld lc :=
  ⟨h.ra, h.rb, h.rd, h.rc, h.chg, h.na, h.nb, h.nd, h.nc, h.ab, h.ad, h.ac, h.bd, h.bc, h.cd.symm⟩
theorem Q4.chg0 (h : Q4 w0 W va vb vc vd la lb lc ld) (hc : Chg [] W W') : Q4 w0 W' va vb vc vd la lb lc ld :=
  ⟨h.ra.chg0 hc, h.rb.chg0 hc, h.rc.chg0 hc, h.rd.chg0 hc, h.chg.nil_trans hc, h.na, h.nb, h.nc, h.nd, h.ab, h.ac, h.ad, h.bc, h.bd, h.cd⟩
theorem own_new {w0 W : World} {v u : Value} (hn : ∀ k, v.ownBlock = some k → w0.heap.size ≤ k) (hs : w0.heap.size ≤ W.heap.size) (ho : u.ownBlock = v.ownBlock ∨ ∀ k, u.ownBlock = some k → W.heap.size ≤ k) : ∀ k, u.ownBlock = some k → w0.heap.size ≤ k := by
  intro k hk
  rcases ho with e | e
  · exact hn k (e ▸ hk)
  · have := e k hk; omega
theorem own_apart {W : World} {v u x : Value} (ha : Apart v x) (hx : ∀ k, x.ownBlock = some k → k < W.heap.size) (ho : u.ownBlock = v.ownBlock ∨ ∀ k, u.ownBlock = some k → W.heap.size ≤ k) : Apart u x := by
  intro k hk h2
  rcases ho with e | e
  · exact ha k (e ▸ hk) h2
  · have := e k hk; have := hx k h2; omega
theorem Q4.upA (h : Q4 w0 W va vb vc vd la lb lc ld) (hc : Chg va.ownBlock.toList W W') (hr : RowIs W' 31 3 u l'.length (mCells l')) (ho : u.ownBlock = va.ownBlock ∨ ∀ k, u.ownBlock = some k → W.heap.size ≤ k) : Q4 w0 W' u vb vc vd l' lb lc ld := by
  have hs := h.chg.size
  refine ⟨hr, h.rb.chg hc (fun k hk hm => h.ab k (by simpa using hm) hk), h.rc.chg hc (fun k hk hm => h.ac k (by simpa using hm) hk), h.rd.chg hc (fun k hk hm => h.ad k (by simpa using hm) hk), h.chg.trans hc (fun x hx => .inr (h.na x (by simpa using hx))), own_new h.na hs ho, h.nb, h.nc, h.nd, own_apart h.ab h.rb.lt ho, own_apart h.ac h.rc.lt ho, own_apart h.ad h.rd.lt ho, h.bc, h.bd, h.cd⟩
theorem Q4.upC (h : Q4 w0 W va vb vc vd la lb lc ld) (hc : Chg vc.ownBlock.toList W W') (hr : RowIs W' 3 1 u m'.length (iCells m')) (ho : u.ownBlock = vc.ownBlock ∨ ∀ k, u.ownBlock = some k → W.heap.size ≤ k) : Q4 w0 W' va vb u vd la lb m' ld := by
  have hs := h.chg.size
  refine ⟨h.ra.chg hc (fun k hk hm => h.ac k hk (by simpa using hm)), h.rb.chg hc (fun k hk hm => h.bc k hk (by simpa using hm)), hr, h.rd.chg hc (fun k hk hm => h.cd k (by simpa using hm) hk), h.chg.trans hc (fun x hx => .inr (h.nc x (by simpa using hx))), h.na, h.nb, own_new h.nc hs ho, h.nd, h.ab, (own_apart h.ac.symm h.ra.lt ho).symm, h.ad, (own_apart h.bc.symm h.rb.lt ho).symm, h.bd, own_apart h.cd h.rd.lt ho⟩
theorem Q4.upB (h : Q4 w0 W va vb vc vd la lb lc ld) (hc : Chg vb.ownBlock.toList W W') (hr : RowIs W' 31 3 u l'.length (mCells l')) (ho : u.ownBlock = vb.ownBlock ∨ ∀ k, u.ownBlock = some k → W.heap.size ≤ k) : Q4 w0 W' va u vc vd la l' lc ld := (h.swapA.upA hc hr ho).swapA
theorem Q4.upD (h : Q4 w0 W va vb vc vd la lb lc ld) (hc : Chg vd.ownBlock.toList W W') (hr : RowIs W' 3 1 u m'.length (iCells m')) (ho : u.ownBlock = vd.ownBlock ∨ ∀ k, u.ownBlock = some k → W.heap.size ≤ k) : Q4 w0 W' va vb vc u la lb lc m' := (h.swapC.upC hc hr ho).swapC
end
theorem mCells_set (l : List Mv) : ∀ (i : Nat) (m : Mv), (((mCells l).set (i * 3) (.int .i64 m.kind)).set (i * 3 + 1) (.int .i64 m.who)).set (i * 3 + 2) (.int .i64 m.job) = mCells (l.set i m) := by
  induction l with
  | nil => intro i m; simp [mCells]
  | cons y l ih =>
    intro i m
    have e : ∀ (z : Mv) (m : List Mv), mCells (z :: m) = .int .i64 z.kind :: .int .i64 z.who :: .int .i64 z.job :: mCells m := fun _ _ => rfl
    cases i with
    | zero => simp [e]
    | succ i =>
      rw [e, show (i + 1) * 3 = i * 3 + 1 + 1 + 1 from by omega]
      simp only [List.set_cons_succ]
      rw [ih i m]
      rfl
theorem iCells_set (l : List Nat) : ∀ (i : Nat) (n : Nat), (iCells l).set i (.int .i64 n) = iCells (l.set i n) := by
  intro i n
  unfold iCells
  rw [List.map_set]
/-- A move written over. -/
theorem row_mv {W : World} {g o cap : Nat} {l : List Mv} (h : RowIs W 31 3 (.slice (some ⟨g, o, none⟩) l.length cap) l.length (mCells l)) (i : Nat) (hi : i < l.length) (m : Mv) :
    RowIs (((W.setCell ⟨g, o + i * 3, none⟩ (.int .i64 m.kind)).setCell ⟨g, o + i * 3 + 1, none⟩ (.int .i64 m.who)).setCell ⟨g, o + i * 3 + 2, none⟩ (.int .i64 m.job)) 31 3 (.slice (some ⟨g, o, none⟩) l.length cap) (l.set i m).length (mCells (l.set i m)) ∧
    Chg [g] W (((W.setCell ⟨g, o + i * 3, none⟩ (.int .i64 m.kind)).setCell ⟨g, o + i * 3 + 1, none⟩ (.int .i64 m.who)).setCell ⟨g, o + i * 3 + 2, none⟩ (.int .i64 m.job)) := by
  have h1 := h.put (i * 3) (by omega) (.int .i64 m.kind)
  have h2 := h1.put (i * 3 + 1) (by omega) (.int .i64 m.who)
  have h3 := h2.put (i * 3 + 2) (by omega) (.int .i64 m.job)
  rw [mCells_set, ← Nat.add_assoc, ← Nat.add_assoc] at h3
  rw [List.length_set]
  exact ⟨h3, (((Chg.refl [g] W).setCell (p := ⟨g, _, none⟩) (by simp) _).setCell (p := ⟨g, _, none⟩) (by simp) _).setCell (p := ⟨g, _, none⟩) (by simp) _⟩
theorem row_int {W : World} {g o cap : Nat} {l : List Nat} (h : RowIs W 3 1 (.slice (some ⟨g, o, none⟩) l.length cap) l.length (iCells l)) (i : Nat) (hi : i < l.length) (n : Nat) :
    RowIs (W.setCell ⟨g, o + i, none⟩ (.int .i64 n)) 3 1 (.slice (some ⟨g, o, none⟩) l.length cap) (l.set i n).length (iCells (l.set i n)) ∧ Chg [g] W (W.setCell ⟨g, o + i, none⟩ (.int .i64 n)) := by
  have h1 := h.put i (by omega) (.int .i64 n)
  rw [iCells_set] at h1
  rw [List.length_set]
  exact ⟨h1, (Chg.refl [g] W).setCell (p := ⟨g, _, none⟩) (by simp) _⟩
theorem row_mv2 {W : World} {g o cap n : Nat} {l : List Mv} (hn : l.length = n) (h : RowIs W 31 3 (.slice (some ⟨g, o, none⟩) n cap) n (mCells l)) (i : Nat) (hi : i < n) (m : Mv) :
    RowIs (((W.setCell ⟨g, o + i * 3, none⟩ (.int .i64 m.kind)).setCell ⟨g, o + i * 3 + 1, none⟩ (.int .i64 m.who)).setCell ⟨g, o + i * 3 + 2, none⟩ (.int .i64 m.job)) 31 3 (.slice (some ⟨g, o, none⟩) n cap) (l.set i m).length (mCells (l.set i m)) ∧
    Chg [g] W (((W.setCell ⟨g, o + i * 3, none⟩ (.int .i64 m.kind)).setCell ⟨g, o + i * 3 + 1, none⟩ (.int .i64 m.who)).setCell ⟨g, o + i * 3 + 2, none⟩ (.int .i64 m.job)) := by
  subst hn
  exact row_mv h i hi m
theorem row_int2 {W : World} {g o cap k : Nat} {l : List Nat} (hn : l.length = k) (h : RowIs W 3 1 (.slice (some ⟨g, o, none⟩) k cap) k (iCells l)) (i : Nat) (hi : i < k) (n : Nat) :
    RowIs (W.setCell ⟨g, o + i, none⟩ (.int .i64 n)) 3 1 (.slice (some ⟨g, o, none⟩) k cap) (l.set i n).length (iCells (l.set i n)) ∧ Chg [g] W (W.setCell ⟨g, o + i, none⟩ (.int .i64 n)) := by
  subst hn
  exact row_int h i hi n
theorem set_job {l : List Mv} {i : Nat} {j : Int} {m : Mv} (hm : m.job = j) (h : ∀ y (h : y < l.length), y < i → l[y].job = j) : ∀ y (h : y < (l.set i m).length), y < i + 1 → (l.set i m)[y].job = j := by
  intro y hy hyi
  rw [List.getElem_set]
  split
  · exact hm
  · exact h y _ (by omega)
theorem set_num {l : List Nat} {i : Nat} {j : Nat} (h : ∀ y (h : y < l.length), y < i → l[y] = j) : ∀ y (h : y < (l.set i j).length), y < i + 1 → (l.set i j)[y] = j := by
  intro y hy hyi
  rw [List.getElem_set]
  split
  · rfl
  · exact h y _ (by omega)
/-- A move behind the list. -/
theorem app_mv {W : World} {v : Value} {l : List Mv} (h : RowIs W 31 3 v l.length (mCells l)) (hl : l.length ≤ 100000) (m : Mv) :
    ∃ u W', (apX #[28, 28] 28 #[v, .slice (some ⟨W.heap.size, 0, none⟩) 1 1]).run Try.prog (W.alloc (.cells #[.int .i64 m.kind, .int .i64 m.who, .int .i64 m.job] 31)) = .ok u W' ∧
      RowIs W' 31 3 u (l ++ [m]).length (mCells (l ++ [m])) ∧ Chg v.ownBlock.toList W W' ∧ (u.ownBlock = v.ownBlock ∨ ∀ k, u.ownBlock = some k → W.heap.size ≤ k) := by
  have hc1 : Chg [] W (W.alloc (.cells #[.int .i64 m.kind, .int .i64 m.who, .int .i64 m.job] 31)) := (Chg.refl _ _).alloc _
  have hg := blk_new W (.cells #[.int .i64 m.kind, .int .i64 m.who, .int .i64 m.job] 31)
  have hsa : (W.alloc (.cells #[.int .i64 m.kind, .int .i64 m.who, .int .i64 m.job] 31)).heap.size = W.heap.size + 1 := World.size_alloc _ _
  obtain ⟨i, hi, hz, hs, hb⟩ := infoOf i_Mv
  obtain ⟨v', w', q1, q2, q3, q4⟩ := (h.chg0 hc1).app (P := Try.prog) 28 28 i _ 24 u_Moves hi hz hs hb rfl (by omega) ⟨W.heap.size, 0, none⟩ 1 1 [.int .i64 m.kind, .int .i64 m.who, .int .i64 m.job] rfl
    (by
      intro j u hu
      rw [Addr.add_mid, Nat.zero_add, cell_of_row _ _ _ _ _ _ hg]
      simpa using hu)
    (by intro u hu; simp at hu; rcases hu with rfl | rfl | rfl <;> rfl) (by unfold maxLen; omega) (by omega)
  refine ⟨v', w', q1, ?_, hc1.of_nil.trans q3 (fun x hx => .inl hx), ?_⟩
  · rw [mCells_append, List.length_append]
    exact q2
  · rcases q4 with e | e
    · exact .inl e
    · right
      intro k hk
      rw [e, hsa] at hk
      simp at hk
      omega
theorem app_num {W : World} {v : Value} {l : List Nat} (h : RowIs W 3 1 v l.length (iCells l)) (hl : l.length ≤ 100000) (n : Nat) :
    ∃ u W', (apX #[34, 34] 34 #[v, .slice (some ⟨W.heap.size, 0, none⟩) 1 1]).run Try.prog (W.alloc (.cells #[.int .i64 n] 3)) = .ok u W' ∧
      RowIs W' 3 1 u (l ++ [n]).length (iCells (l ++ [n])) ∧ Chg v.ownBlock.toList W W' ∧ (u.ownBlock = v.ownBlock ∨ ∀ k, u.ownBlock = some k → W.heap.size ≤ k) := by
  have hc1 : Chg [] W (W.alloc (.cells #[.int .i64 n] 3)) := (Chg.refl _ _).alloc _
  have hsa : (W.alloc (.cells #[.int .i64 n] 3)).heap.size = W.heap.size + 1 := World.size_alloc _ _
  obtain ⟨v', w', q1, q2, q3, q4, _⟩ := app_int (h.chg0 hc1) hl n W.heap.size (blk_new W _)
  refine ⟨v', w', q1, q2, hc1.of_nil.trans q3 (fun x hx => .inl hx), ?_⟩
  rcases q4 with e | e
  · exact .inl e
  · right
    intro k hk
    rw [e, hsa] at hk
    simp at hk
    omega
end Go.Proofs.Ytfmdghijbkddpaa

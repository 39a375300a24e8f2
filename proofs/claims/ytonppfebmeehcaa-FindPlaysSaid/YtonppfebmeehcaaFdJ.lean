/- A find of one's own, as the statements use it; 'awake' walked; how many unlike hashes there are. -/
import Derived.Test.YtonppfebmeehcaaFdG
import Derived.Test.YtonppfebmeehcaaFdI
import Derived.Test.YtonppfebmeehcaaRg
namespace Go.Proofs.Ytonppfebmeehcaa
open Go.RowKit
set_option linter.unusedVariables false
set_option linter.unusedSimpArgs false

/-- A find that, since w0, has changed only what was its own (F0), or is new. -/
structure FdOf (F0 : List Nat) (w0 w : World) (b : Nat) (f : FS) : Prop where
  is : FdIs w b f
  chg : Chg F0 w0 w
  foot : ∀ x ∈ f.foot b, x ∈ F0 ∨ w0.heap.size ≤ x
theorem FdOf.here {w : World} {b : Nat} {f : FS} (h : FdIs w b f) : FdOf (f.foot b) w w b f := ⟨h, Chg.refl _ _, fun x hx => .inl hx⟩
theorem FdOf.comp {F0 F1 : List Nat} {w0 w1 w : World} {b : Nat} {f f1 : FS} (h : FdOf F0 w0 w1 b f1) (k : FdOf F1 w1 w b f) (hF : ∀ x ∈ F1, x ∈ F0 ∨ w0.heap.size ≤ x) : FdOf F0 w0 w b f :=
  ⟨k.is, h.chg.trans k.chg hF, fun x hx => (k.foot x hx).elim (hF x) (fun q => .inr (by have := h.chg.size; omega))⟩
theorem FdOf.chg0 {F0 : List Nat} {w0 w w' : World} {b : Nat} {f : FS} (h : FdOf F0 w0 w b f) (hc : Chg [] w w') : FdOf F0 w0 w' b f := ⟨h.is.chg0 hc, h.chg.nil_trans hc, h.foot⟩
def NewF (w : World) (e : Ending) (w' : World) : Prop := ∃ b f, e = .returned (.pointer (some ⟨b, 0, none⟩)) ∧ FdOf [] w w' b f ∧ f.ls = []
theorem new_of (w : World) : Calls Try.prog 9 #[] w (NewF w) := by
  have hmm := @run_makeMap Try.prog
  go_enter Try.func9, Try.ntmps9
  go_wp2
  go_ret
  have e1 := blk_new (w.alloc (.map #[] 0)) (.cells #[.slice none 0 0, .map (some w.heap.size)] 72)
  rw [World.size_alloc] at e1
  have hc : Chg [] (w.alloc (.map #[] 0)) ((w.alloc (.map #[] 0)).alloc (.cells #[.slice none 0 0, .map (some w.heap.size)] 72)) := (Chg.refl _ _).alloc _
  refine ⟨_, ⟨.slice none 0 0, w.heap.size, [], []⟩, rfl, ⟨⟨e1, HOwn.nil _ _, (MapIs.new encH w).chg hc (by simp), by simp, by simp, by simp, by simp [ob_nil], by simp [ob_nil], by simp, by simp⟩, ((Chg.refl [] w).alloc _).nil_trans hc, ?_⟩, rfl⟩
  intro x hx
  simp [FS.foot, ob_nil] at hx
  omega
def AddF (F0 : List Nat) (w0 : World) (b : Nat) (f : FS) (k : HK) (e : Ending) (w' : World) : Prop := e = .returned (.int .u64 (f.ls.length : Nat)) ∧ ∃ f', FdOf F0 w0 w' b f' ∧ f'.ls = f.ls ++ [k]
theorem FdOf.add {F0 : List Nat} {w0 w : World} {b : Nat} {f : FS} (h : FdOf F0 w0 w b f) (hl : f.ls.length ≤ 100000) (k : HK) : Calls Try.prog 10 #[.pointer (some ⟨b, 0, none⟩), .agg k.1] w (AddF F0 w0 b f k) := by
  refine (dAdd_calls w b f h.is hl k).mono ?_
  rintro e w' ⟨f', rfl, h1, h2, h3, h4⟩
  exact ⟨rfl, f', ⟨h1, h.chg.trans h3 h.foot, fun x hx => by
    rcases h4 x hx with q | q
    · exact h.foot x q
    · have := h.chg.size; exact .inr (by omega)⟩, h2⟩
def CutF (F0 : List Nat) (w0 : World) (b : Nat) (f : FS) (n : Nat) (e : Ending) (w' : World) : Prop := e = .returned (.int .i64 0) ∧ ∃ f', FdOf F0 w0 w' b f' ∧ f'.ls = f.ls.take n
theorem FdOf.cut {F0 : List Nat} {w0 w : World} {b : Nat} {f : FS} (h : FdOf F0 w0 w b f) (hl : f.ls.length ≤ 100000) (n : Nat) (hn : n ≤ f.ls.length) : Calls Try.prog 18 #[.pointer (some ⟨b, 0, none⟩), .int .u64 n] w (CutF F0 w0 b f n) := by
  refine (dCut_ok w b f h.is hl n hn).mono ?_
  rintro e w' ⟨f', rfl, h1, h2, h3, h4⟩
  exact ⟨rfl, f', ⟨h1, h.chg.trans h3 h.foot, fun x hx => h.foot x (h4 x hx)⟩, h2⟩

/-! How many unlike ones. -/
def frst (ls : List HK) (i : Nat) : Bool := match ls[i]? with
  | some k => decide (fstN k ls = i)
  | none => false
def kinds (ls : List HK) (n : Nat) : Nat := (List.range n).countP (frst ls)
theorem kinds_succ (ls : List HK) (n : Nat) : kinds ls (n + 1) = if frst ls n then kinds ls n + 1 else kinds ls n := by
  unfold kinds
  rw [List.range_succ, List.countP_append]
  by_cases h : frst ls n <;> simp [h]
def uniL (ls : List HK) : List HK := (List.range ls.length).filterMap fun i => if frst ls i then ls[i]? else none
theorem frst_some {ls : List HK} {i : Nat} (h : frst ls i = true) : ∃ k, ls[i]? = some k ∧ fstN k ls = i := by
  unfold frst at h
  split at h
  · rename_i k hk
    exact ⟨k, hk, by simpa using h⟩
  · cases h
theorem FdIs.unlike {w : World} {b : Nat} {f : FS} (h : FdIs w b f) : f.mp.length = kinds f.ls f.ls.length := by
  have hmem : ∀ k, k ∈ uniL f.ls ↔ k ∈ f.ls := by
    intro k
    unfold uniL
    rw [List.mem_filterMap]
    constructor
    · rintro ⟨i, _, hi⟩
      split at hi
      · exact List.mem_iff_getElem?.2 ⟨i, hi⟩
      · cases hi
    · intro hk
      obtain ⟨a, c⟩ := fstN_at hk
      refine ⟨fstN k f.ls, by simpa using c, ?_⟩
      rw [if_pos (by unfold frst; rw [a]; simp), a]
  have hnd : (uniL f.ls).Nodup := by
    have : (uniL f.ls).Pairwise (fun a b => fstN a f.ls < fstN b f.ls) := by
      unfold uniL
      rw [List.pairwise_filterMap]
      refine List.Pairwise.imp ?_ (List.pairwise_lt_range)
      intro i j hij x hx y hy
      split at hx
      · rename_i h1
        split at hy
        · rename_i h2
          obtain ⟨k1, e1, q1⟩ := frst_some h1
          obtain ⟨k2, e2, q2⟩ := frst_some h2
          rw [e1] at hx
          rw [e2] at hy
          injection hx with hx
          injection hy with hy
          rw [← hx, ← hy, q1, q2]
          exact hij
        · cases hy
      · cases hx
    exact this.imp (fun h e => by subst e; omega)
  have hp : (f.mp.map (·.1)).Perm (uniL f.ls) := by
    rw [List.perm_ext_iff_of_nodup h.keysN hnd]
    intro k
    rw [h.keyIn, hmem]
  have e := hp.length_eq
  rw [List.length_map] at e
  rw [e]
  unfold uniL kinds
  rw [List.length_filterMap_eq_countP]
  apply List.countP_congr
  intro i hi
  by_cases hf : frst f.ls i = true
  · obtain ⟨k, e1, _⟩ := frst_some hf
    simp [hf, e1]
  · simp [hf]
theorem UOwn.nis {w : World} {B : Nat} {v : Value} {l : List Nat} (h : UOwn w B v l) : ∃ a cap, v = .slice a l.length cap ∧ (l = [] ∨ ∃ g, a = some ⟨g, 0, none⟩ ∧ g < w.heap.size ∧ B ≤ g ∧ ∀ i (hi : i < l.length), w.cell? ⟨g, i, none⟩ = some (.int .u64 (l[i] : Nat))) := by
  obtain ⟨a, cap, rfl⟩ := h.shapeU
  refine ⟨a, cap, rfl, ?_⟩
  by_cases hl : l = []
  · exact .inl hl
  · have h0 : 0 < l.length := List.length_pos_iff.2 hl
    obtain ⟨_, g, rfl, hg, _⟩ := h.cellU h0
    refine .inr ⟨g, rfl, hg, (own_lt h g (by simp [ob_some])).1, fun i hi => ?_⟩
    obtain ⟨_, g', hgg, _, hc⟩ := h.cellU hi
    injection hgg with hgg
    injection hgg with hgg
    subst hgg
    exact hc
/-- A find with these hashes. -/
def FdL (F0 : List Nat) (w0 w : World) (b : Nat) (ls : List HK) : Prop := ∃ f, FdOf F0 w0 w b f ∧ f.ls = ls
theorem FdL.chg0 {F0 : List Nat} {w0 w w' : World} {b : Nat} {ls : List HK} (h : FdL F0 w0 w b ls) (hc : Chg [] w w') : FdL F0 w0 w' b ls := by
  obtain ⟨f, h1, h2⟩ := h
  exact ⟨f, h1.chg0 hc, h2⟩
theorem FdL.chg {F0 F : List Nat} {w0 w w' : World} {b : Nat} {ls : List HK} (h : FdL F0 w0 w b ls) (hc : Chg F w w') (hF : ∀ x ∈ F, w.heap.size ≤ x ∨ (x ∉ F0 ∧ x < w0.heap.size)) (hF0 : ∀ x ∈ F, x < w.heap.size → x ∈ F0) : FdL F0 w0 w' b ls := by
  obtain ⟨f, h1, h2⟩ := h
  have hlt := h1.is.lt
  refine ⟨f, ⟨h1.is.chg hc (fun x hx hxF => ?_), h1.chg.trans hc (fun x hx => ?_), h1.foot⟩, h2⟩
  · rcases hF x hxF with q | ⟨q1, q2⟩
    · have := hlt x hx; omega
    · rcases h1.foot x hx with r | r
      · exact q1 r
      · omega
  · rcases hF x hx with q | ⟨q1, q2⟩
    · exact .inr (by have := h1.chg.size; omega)
    · exact absurd (hF0 x hx (by have := h1.chg.size; omega)) q1
theorem FdL.out {F0 : List Nat} {w0 w : World} {b : Nat} {ls : List HK} (h : FdL F0 w0 w b ls) : Chg F0 w0 w := by obtain ⟨f, h1, _⟩ := h; exact h1.chg
/-- It is looked at from here. -/
theorem FdL.here {F0 : List Nat} {w0 w : World} {b : Nat} {ls : List HK} (h : FdL F0 w0 w b ls) : ∃ F1, FdL F1 w w b ls ∧ (∀ x ∈ F1, x ∈ F0 ∨ w0.heap.size ≤ x) ∧ (∀ x ∈ F1, x < w.heap.size) := by
  obtain ⟨f, h1, h2⟩ := h
  exact ⟨f.foot b, ⟨f, FdOf.here h1.is, h2⟩, h1.foot, h1.is.lt⟩
theorem FdL.hereAt {F0 : List Nat} {w0 w w' : World} {b : Nat} {ls : List HK} (h : FdL F0 w0 w b ls) (hc : Chg [] w w') : ∃ F1, FdL F1 w' w' b ls ∧ (∀ x ∈ F1, x ∈ F0 ∨ w0.heap.size ≤ x) ∧ (∀ x ∈ F1, x < w.heap.size) := by
  obtain ⟨f, h1, h2⟩ := h
  exact ⟨f.foot b, ⟨f, FdOf.here (h1.is.chg0 hc), h2⟩, h1.foot, h1.is.lt⟩
theorem FdL.comp {F0 F1 : List Nat} {w0 w1 w : World} {b : Nat} {ls ls1 : List HK} (h : FdL F0 w0 w1 b ls1) (k : FdL F1 w1 w b ls) (hF : ∀ x ∈ F1, x ∈ F0 ∨ w0.heap.size ≤ x) : FdL F0 w0 w b ls := by
  obtain ⟨f, h1, h2⟩ := h
  obtain ⟨f', k1, k2⟩ := k
  exact ⟨f', h1.comp k1 hF, k2⟩
def NewL (w : World) (e : Ending) (w' : World) : Prop := ∃ b, e = .returned (.pointer (some ⟨b, 0, none⟩)) ∧ FdL [] w w' b []
theorem newL (w : World) : Calls Try.prog 9 #[] w (NewL w) := (new_of w).mono fun _ _ ⟨b, f, he, h1, h2⟩ => ⟨b, he, f, h1, h2⟩
section
variable {F0 : List Nat} {w0 w : World} {b : Nat} {ls : List HK}
def AddL (F0 : List Nat) (w0 : World) (b : Nat) (ls : List HK) (k : HK) (e : Ending) (w' : World) : Prop := e = .returned (.int .u64 (ls.length : Nat)) ∧ FdL F0 w0 w' b (ls ++ [k])
theorem FdL.add (h : FdL F0 w0 w b ls) (hl : ls.length ≤ 100000) (k : HK) : Calls Try.prog 10 #[.pointer (some ⟨b, 0, none⟩), .agg k.1] w (AddL F0 w0 b ls k) := by
  obtain ⟨f, h1, rfl⟩ := h
  exact (h1.add hl k).mono fun _ _ ⟨he, f', q1, q2⟩ => ⟨he, f', q1, q2⟩
def CutL (F0 : List Nat) (w0 : World) (b : Nat) (ls : List HK) (n : Nat) (e : Ending) (w' : World) : Prop := e = .returned (.int .i64 0) ∧ FdL F0 w0 w' b (ls.take n)
theorem FdL.cut (h : FdL F0 w0 w b ls) (hl : ls.length ≤ 100000) (n : Nat) (hn : n ≤ ls.length) : Calls Try.prog 18 #[.pointer (some ⟨b, 0, none⟩), .int .u64 n] w (CutL F0 w0 b ls n) := by
  obtain ⟨f, h1, rfl⟩ := h
  exact (h1.cut hl n hn).mono fun _ _ ⟨he, f', q1, q2⟩ => ⟨he, f', q1, q2⟩
theorem FdL.cutFar (h : FdL F0 w0 w b ls) (hl : ls.length ≤ 100000) (n : Nat) (hn : ls.length < n) (hn2 : n < 18446744073709551616) : Calls Try.prog 18 #[.pointer (some ⟨b, 0, none⟩), .int .u64 n] w (Res w [] (.int .i64 30)) := by
  obtain ⟨f, h1, rfl⟩ := h
  exact dCut_far w b f h1.is hl n hn hn2
theorem FdL.at (h : FdL F0 w0 w b ls) (hl : ls.length ≤ 100000) (k : HK) : Calls Try.prog 13 #[.pointer (some ⟨b, 0, none⟩), .agg k.1] w (CloneP w (idxOf k ls)) := by
  obtain ⟨f, h1, rfl⟩ := h
  exact dAt_calls w b f h1.is hl k
def lfH (ls : List HK) (i : Nat) : Array Value := ((ls[i]?).map (·.1)).getD zeroHash
def lfE (ls : List HK) (i : Nat) : Int := if i < ls.length then 0 else 32
theorem lfH_is (ls : List HK) (i : Nat) : IsHash (lfH ls i) := by
  unfold lfH
  cases ls[i]? with
  | none => exact zeroHash_is
  | some k => exact k.2
theorem FdL.leaf (h : FdL F0 w0 w b ls) (hl : ls.length ≤ 100000) (i : Nat) (hi2 : i < 18446744073709551616) : Calls Try.prog 15 #[.pointer (some ⟨b, 0, none⟩), .int .u64 i] w (Res w [] (.tuple #[.agg (lfH ls i), .int .i64 (lfE ls i)])) := by
  obtain ⟨f, h1, rfl⟩ := h
  exact dLeaf_calls w b f h1.is hl i hi2
theorem FdL.size (h : FdL F0 w0 w b ls) (hl : ls.length ≤ 100000) : Calls Try.prog 22 #[.pointer (some ⟨b, 0, none⟩)] w fun e w' => e = .returned (.int .u64 (ls.length : Nat)) ∧ w' = w := by
  obtain ⟨f, h1, rfl⟩ := h
  exact dSize_calls w b f h1.is (by omega)
theorem FdL.unlike (h : FdL F0 w0 w b ls) : Calls Try.prog 21 #[.pointer (some ⟨b, 0, none⟩)] w fun e w' => e = .returned (.int .i64 (kinds ls ls.length : Nat)) ∧ w' = w := by
  obtain ⟨f, h1, rfl⟩ := h
  have := dUnlike_calls w b f h1.is
  rw [h1.is.unlike] at this
  exact this
def TwL (w : World) (ls : List HK) (e : Ending) (w' : World) : Prop := ∃ v, e = .returned v ∧ HOwn w' w.heap.size v ((twiceL ls).map (·.1)) ∧ Chg [] w w'
theorem FdL.twice (h : FdL F0 w0 w b ls) (hl : ls.length ≤ 100000) : Calls Try.prog 42 #[.pointer (some ⟨b, 0, none⟩)] w (TwL w ls) := by
  obtain ⟨f, h1, rfl⟩ := h
  exact dTwice_calls w b f h1.is hl
end
end Go.Proofs.Ytonppfebmeehcaa

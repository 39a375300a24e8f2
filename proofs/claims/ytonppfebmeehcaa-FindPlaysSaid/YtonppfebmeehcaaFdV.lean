/- Both finds side by side; rows of hashes written over. -/
import Derived.Test.YtonppfebmeehcaaFdU
namespace Go.Proofs.Ytonppfebmeehcaa
open Go.RowKit
set_option linter.unusedVariables false
set_option linter.unusedSimpArgs false

structure PFx (F0 : List Nat) (w0 w : World) (b rb : Nat) (f : FS) (rv : Value) (ls rs : List HK) : Prop where
  is : FdIs w b f
  ls : f.ls = ls
  rf : RfIs w rb rv rs
  chg : Chg F0 w0 w
  own : ∀ x, (x ∈ f.foot b ∨ x = rb ∨ x ∈ ob rv) → x ∈ F0 ∨ w0.heap.size ≤ x
  ap : ∀ x ∈ f.foot b, x ≠ rb ∧ x ∉ ob rv
/-- A find with the hashes ls and the document's with rs. -/
def PF (F0 : List Nat) (w0 w : World) (b rb : Nat) (ls rs : List HK) : Prop := ∃ f rv, PFx F0 w0 w b rb f rv ls rs
section
variable {F0 : List Nat} {w0 w : World} {b rb : Nat} {ls rs : List HK}
theorem PF.chg0 {w' : World} (h : PF F0 w0 w b rb ls rs) (hc : Chg [] w w') : PF F0 w0 w' b rb ls rs := by
  obtain ⟨f, rv, h⟩ := h
  exact ⟨f, rv, h.is.chg0 hc, h.ls, h.rf.chg0 hc, h.chg.nil_trans hc, h.own, h.ap⟩
theorem PF.out (h : PF F0 w0 w b rb ls rs) : Chg F0 w0 w := by obtain ⟨f, rv, h⟩ := h; exact h.chg
theorem PF.fd (h : PF F0 w0 w b rb ls rs) : ∃ F1, FdL F1 w w b ls := by obtain ⟨f, rv, h⟩ := h; exact ⟨_, f, FdOf.here h.is, h.ls⟩
theorem PF.rf (h : PF F0 w0 w b rb ls rs) : ∃ rv, RfIs w rb rv rs := by obtain ⟨f, rv, h⟩ := h; exact ⟨rv, h.rf⟩
theorem PF.hereAt {w' : World} (h : PF F0 w0 w b rb ls rs) (hc : Chg [] w w') : ∃ F1, PF F1 w' w' b rb ls rs ∧ (∀ x ∈ F1, x ∈ F0 ∨ w0.heap.size ≤ x) ∧ (∀ x ∈ F1, x < w.heap.size) := by
  obtain ⟨f, rv, h⟩ := h
  refine ⟨f.foot b ++ rb :: ob rv, ⟨f, rv, h.is.chg0 hc, h.ls, h.rf.chg0 hc, Chg.refl _ _, fun x hx => .inl (by rcases hx with q | q | q <;> simp [q]), h.ap⟩, fun x hx => h.own x ?_, fun x hx => ?_⟩
  · rcases List.mem_append.1 hx with q | q
    · exact .inl q
    · rcases List.mem_cons.1 q with q | q
      · exact .inr (.inl q)
      · exact .inr (.inr q)
  · rcases List.mem_append.1 hx with q | q
    · exact h.is.lt x q
    · rcases List.mem_cons.1 q with q | q
      · rw [q]; exact blk_lt h.rf.mem
      · exact (own_lt h.rf.row.1 x q).2
theorem PF.comp {F1 : List Nat} {w1 : World} {ls1 rs1 : List HK} (h : PF F0 w0 w1 b rb ls1 rs1) (k : PF F1 w1 w b rb ls rs) (hF : ∀ x ∈ F1, x ∈ F0 ∨ w0.heap.size ≤ x) : PF F0 w0 w b rb ls rs := by
  obtain ⟨f, rv, h⟩ := h
  obtain ⟨f', rv', k⟩ := k
  exact ⟨f', rv', k.is, k.ls, k.rf, h.chg.trans k.chg hF, fun x hx => (k.own x hx).elim (hF x) (fun q => .inr (by have := h.chg.size; omega)), k.ap⟩
def AddP1 (F0 : List Nat) (w0 : World) (b rb : Nat) (ls rs : List HK) (k : HK) (e : Ending) (w' : World) : Prop := e = .returned (.int .u64 (ls.length : Nat)) ∧ PF F0 w0 w' b rb (ls ++ [k]) rs
theorem PF.addF (h : PF F0 w0 w b rb ls rs) (hl : ls.length ≤ 100000) (k : HK) : Calls Try.prog 10 #[.pointer (some ⟨b, 0, none⟩), .agg k.1] w (AddP1 F0 w0 b rb ls rs k) := by
  obtain ⟨f, rv, h⟩ := h
  have hls := h.ls
  subst hls
  refine (dAdd_calls w b f h.is hl k).mono ?_
  rintro e w' ⟨f', rfl, h1, h2, h3, h4⟩
  have hap : ∀ x ∈ f'.foot b, x ≠ rb ∧ x ∉ ob rv := fun x hx => by
    rcases h4 x hx with q | q
    · exact h.ap x q
    · exact ⟨fun e => by have := blk_lt h.rf.mem; omega, fun e => by have := (own_lt h.rf.row.1 x e).2; omega⟩
  exact ⟨rfl, f', rv, h1, h2, h.rf.chg h3 (fun e => (h.ap _ e).1 rfl) (fun x hx e => (h.ap _ e).2 hx), h.chg.trans h3 (fun x hx => h.own x (.inl hx)), fun x hx => by
    rcases hx with q | q
    · rcases h4 x q with r | r
      · exact h.own x (.inl r)
      · exact .inr (by have := h.chg.size; omega)
    · exact h.own x (.inr q), hap⟩
def AddP2 (F0 : List Nat) (w0 : World) (b rb : Nat) (ls rs : List HK) (k : HK) (e : Ending) (w' : World) : Prop := e = .returned (.int .u64 (rs.length : Nat)) ∧ PF F0 w0 w' b rb ls (rs ++ [k])
theorem PF.addR (h : PF F0 w0 w b rb ls rs) (hl : rs.length ≤ 100000) (k : HK) : Calls Try.prog 11 #[.pointer (some ⟨rb, 0, none⟩), .agg k.1] w (AddP2 F0 w0 b rb ls rs k) := by
  obtain ⟨f, rv, h⟩ := h
  refine (rAdd_calls w rb rv rs h.rf hl k).mono ?_
  rintro e w' ⟨rv', rfl, h1, h3, h4⟩
  have hlt := h.is.lt
  exact ⟨rfl, f, rv', h.is.chg h3 (fun x hx e => by rcases List.mem_cons.1 e with q | q; exact (h.ap x hx).1 q; exact (h.ap x hx).2 q), h.ls, h1, h.chg.trans h3 (fun x hx => h.own x (.inr (by rcases List.mem_cons.1 hx with q | q; exact .inl q; exact .inr q))), fun x hx => by
    rcases hx with q | q | q
    · exact h.own x (.inl q)
    · exact h.own x (.inr (.inl q))
    · rcases h4 x q with r | r
      · exact h.own x (.inr (.inr r))
      · exact .inr (by have := h.chg.size; omega), fun x hx => ⟨(h.ap x hx).1, fun e => by
    rcases h4 x e with r | r
    · exact (h.ap x hx).2 r
    · have := hlt x hx; omega⟩⟩
def CutP1 (F0 : List Nat) (w0 : World) (b rb : Nat) (ls rs : List HK) (n : Nat) (e : Ending) (w' : World) : Prop := e = .returned (.int .i64 0) ∧ PF F0 w0 w' b rb (ls.take n) rs
theorem PF.cutF (h : PF F0 w0 w b rb ls rs) (hl : ls.length ≤ 100000) (n : Nat) (hn : n ≤ ls.length) : Calls Try.prog 18 #[.pointer (some ⟨b, 0, none⟩), .int .u64 n] w (CutP1 F0 w0 b rb ls rs n) := by
  obtain ⟨f, rv, h⟩ := h
  have hls := h.ls
  subst hls
  refine (dCut_ok w b f h.is hl n hn).mono ?_
  rintro e w' ⟨f', rfl, h1, h2, h3, h4⟩
  exact ⟨rfl, f', rv, h1, h2, h.rf.chg h3 (fun e => (h.ap _ e).1 rfl) (fun x hx e => (h.ap _ e).2 hx), h.chg.trans h3 (fun x hx => h.own x (.inl hx)), fun x hx => by
    rcases hx with q | q
    · exact h.own x (.inl (h4 x q))
    · exact h.own x (.inr q), fun x hx => h.ap x (h4 x hx)⟩
def CutP2 (F0 : List Nat) (w0 : World) (b rb : Nat) (ls rs : List HK) (n : Nat) (e : Ending) (w' : World) : Prop := e = .returned (.int .i64 0) ∧ PF F0 w0 w' b rb ls (rs.take n)
theorem PF.cutR (h : PF F0 w0 w b rb ls rs) (hl : rs.length ≤ 100000) (n : Nat) (hn : n ≤ rs.length) : Calls Try.prog 19 #[.pointer (some ⟨rb, 0, none⟩), .int .u64 n] w (CutP2 F0 w0 b rb ls rs n) := by
  obtain ⟨f, rv, h⟩ := h
  refine (rCut_ok w rb rv rs h.rf hl n hn).mono ?_
  rintro e w' ⟨rv', rfl, h1, h3, h4⟩
  have hlt := h.is.lt
  exact ⟨rfl, f, rv', h.is.chg h3 (fun x hx e => by simp at e; exact (h.ap x hx).1 e), h.ls, h1, h.chg.trans h3 (fun x hx => h.own x (.inr (.inl (by simpa using hx)))), fun x hx => by
    rcases hx with q | q | q
    · exact h.own x (.inl q)
    · exact h.own x (.inr (.inl q))
    · exact .inr (by have := h4 x q; have := h.chg.size; omega), fun x hx => ⟨(h.ap x hx).1, fun e => by have := h4 x e; have := hlt x hx; omega⟩⟩
end

/-! Rows of hashes written over. -/
theorem flat_set {X : Array Value} (hX : X.size = 32) : ∀ (hs : List (Array Value)) (k : Nat), (∀ x ∈ hs, IsHash x) → k < hs.length →
    (hs.set k X).flatMap (·.toList) = (hs.flatMap (·.toList)).take (k * 32) ++ X.toList ++ (hs.flatMap (·.toList)).drop (k * 32 + 32) := by
  intro hs
  induction hs with
  | nil => intro k _ h; simp at h
  | cons x hs ih =>
    intro k hI hk
    have hx : x.toList.length = 32 := by rw [Array.length_toList]; exact (hI x (by simp)).1
    cases k with
    | zero =>
      simp only [List.set_cons_zero, List.flatMap_cons, Nat.zero_mul, List.take_zero, List.nil_append, Nat.zero_add]
      rw [← hx, List.drop_left]
    | succ k =>
      simp only [List.set_cons_succ, List.flatMap_cons]
      rw [ih k (fun y hy => hI y (by simp [hy])) (by simpa using hk)]
      rw [show (k + 1) * 32 = 32 + k * 32 from by omega, show 32 + k * 32 + 32 = 32 + (k * 32 + 32) from by omega]
      rw [List.take_append, List.drop_append, hx, List.take_of_length_le (l := x.toList) (by omega), List.drop_eq_nil_of_le (show x.toList.length ≤ 32 + (k * 32 + 32) from by omega), List.nil_append, show 32 + k * 32 - 32 = k * 32 from by omega, show 32 + (k * 32 + 32) - 32 = k * 32 + 32 from by omega]
      simp only [List.append_assoc]
theorem HOwn.putH {w : World} {B g n cap : Nat} {hs : List (Array Value)} (h : HOwn w B (.slice (some ⟨g, 0, none⟩) n cap) hs) {i : Nat} (hi : i < hs.length) {X : Array Value} (hX : IsHash X) :
    HOwn (setRng w g (i * 32) X) B (.slice (some ⟨g, 0, none⟩) n cap) (hs.set i X) ∧ may w g (i * 32) 32 = true := by
  have hfl := flat_length h.2
  have hIs : ∀ y ∈ hs.set i X, IsHash y := fun y hy => by
    rcases List.mem_or_eq_of_mem_set hy with q | q
    · exact h.2 y q
    · rw [q]; exact hX
  have hfs := flat_length hIs
  rw [List.length_set] at hfs
  have hlx : X.toList.length = 32 := by rw [Array.length_toList]; exact hX.1
  obtain ⟨hl, ⟨hv, _⟩ | ⟨g', cap', cur, hv, hb, hh, hnc, hm, hcs, ht⟩⟩ := h.1
  · cases hv
  · injection hv with e1 e2 e3
    injection e1 with e1
    injection e1 with e1
    subst e1 e2 e3
    have hcl : cur.toList.length = cap * 32 := by rw [Array.length_toList]; exact hcs
    have hnew := setRng_heap hh (i * 32) X (by rw [hX.1, hcs]; omega)
    have hsz : (cur.toList.take (i * 32) ++ X.toList ++ cur.toList.drop (i * 32 + X.size)).toArray.size = cap * 32 := by
      simp only [List.size_toArray, List.length_append, List.length_take, List.length_drop, hcl, hlx, hX.1]
      omega
    have htk : (cur.toList.take (i * 32) ++ X.toList ++ cur.toList.drop (i * 32 + X.size)).toArray.toList.take (hs.length * 32) = (hs.set i X).flatMap (·.toList) := by
      rw [flat_set hX.1 hs i h.2 hi, ← ht, List.take_take, Nat.min_eq_left (by omega), List.drop_take, hX.1]
      show List.take (hs.length * 32) (List.take (i * 32) cur.toList ++ X.toList ++ List.drop (i * 32 + 32) cur.toList) = _
      rw [List.append_assoc, List.append_assoc, List.take_append, List.length_take, hcl, Nat.min_eq_left (by omega), List.take_append, hlx]
      rw [List.take_of_length_le (l := List.take (i * 32) cur.toList) (by simp; omega), List.take_of_length_le (l := X.toList) (by rw [hlx]; omega), show hs.length * 32 - i * 32 - 32 = hs.length * 32 - (i * 32 + 32) from by omega]
    refine ⟨⟨⟨by rw [List.length_set]; exact hfs, .inr ⟨g, cap, _, by rw [List.length_set], hb, hnew, by rw [List.length_set]; exact hnc, hm, hsz, by rw [List.length_set]; exact htk⟩⟩, hIs⟩, may_row (o := i * 32) (n := 32) hh (by rw [hcs]; omega)⟩
def overH (x : Array Value) (k : Nat) (l : List (Array Value)) : List (Array Value) := List.replicate k x ++ l.drop k
theorem overH_zero (x : Array Value) (l : List (Array Value)) : overH x 0 l = l := by simp [overH]
theorem overH_len (x : Array Value) (k : Nat) (l : List (Array Value)) (hk : k ≤ l.length) : (overH x k l).length = l.length := by simp [overH]; omega
theorem overH_all (x : Array Value) (l : List (Array Value)) : overH x l.length l = List.replicate l.length x := by simp [overH]
theorem overH_set (x : Array Value) (k : Nat) (l : List (Array Value)) (hk : k < l.length) : (overH x k l).set k x = overH x (k + 1) l := by
  unfold overH
  rw [List.set_append_right _ _ (by simp)]
  simp only [List.length_replicate, Nat.sub_self]
  rw [List.drop_eq_getElem_cons hk, List.set_cons_zero, List.replicate_succ', List.append_assoc]
  rfl
theorem HOwn.overH {w : World} {B g cap k n : Nat} {x : Array Value} {l : List (Array Value)} (h : HOwn w B (.slice (some ⟨g, 0, none⟩) n cap) (overH x k l)) (hx : IsHash x) (hk : k < l.length) :
    HOwn (setRng w g (k * 32) x) B (.slice (some ⟨g, 0, none⟩) n cap) (Go.Proofs.Ytonppfebmeehcaa.overH x (k + 1) l) ∧ may w g (k * 32) 32 = true ∧ g < w.heap.size := by
  have hp := h.putH (i := k) (by rw [overH_len x k l (by omega)]; exact hk) hx
  rw [overH_set x k l hk] at hp
  exact ⟨hp.1, hp.2, (own_lt h.1 g (by simp [ob_some])).2⟩
end Go.Proofs.Ytonppfebmeehcaa

/- A find: Leaf; Cut walked. -/
import Derived.Test.YtonppfebmeehcaaFdE
namespace Go.Proofs.Ytonppfebmeehcaa
open Go.RowKit
set_option linter.unusedVariables false
set_option linter.unusedSimpArgs false

def FS.leafH (f : FS) (i : Nat) : Array Value := ((f.ls[i]?).map (·.1)).getD zeroHash
def FS.leafE (f : FS) (i : Nat) : Int := if i < f.ls.length then 0 else 32
set_option maxRecDepth 100000 in
theorem dLeaf_calls (w : World) (b : Nat) (f : FS) (h : FdIs w b f) (hl : f.ls.length ≤ 100000) (i : Nat) (hi2 : i < 18446744073709551616) : Calls Try.prog 15 #[.pointer (some ⟨b, 0, none⟩), .int .u64 i] w (Res w [] (.tuple #[.agg (f.leafH i), .int .i64 (f.leafE i)])) := by
  by_cases hi : f.ls.length ≤ i
  · have := dLeaf_far w b f h hl i hi hi2
    unfold FS.leafH FS.leafE
    rw [List.getElem?_eq_none hi, if_neg (by omega)]
    exact this
  · have hi : i < f.ls.length := by omega
    have e1 : Hid (f.leafH i = f.ls[i].1) := by unfold Hid FS.leafH; rw [List.getElem?_eq_getElem hi]; rfl
    have e2 : Hid (f.leafE i = 0) := by unfold Hid FS.leafE; rw [if_pos hi]
    have h1 := h.chg0 ((Chg.refl [] w).alloc (.cells zeroHash 30))
    have hsz := dSize_calls _ b f h1 (by omega)
    obtain ⟨hI, a, cap, hv, hr⟩ := h1.row.hs
    have him : i < (f.ls.map (·.1)).length := by simpa using hi
    rcases hr with hr | ⟨g, o, rfl, hg, hr⟩
    · rw [hr] at him; simp at him
    have hrow := hr i him
    have hIx := f.ls[i].2
    rw [show (f.ls.map (·.1))[i] = f.ls[i].1 from by simp] at hrow
    rw [List.length_map] at hv
    have c0 := blk_cell h1.mem 0 rfl
    rw [hv] at c0
    have hb := blk_lt h1.mem
    have hs1 := hIx.1
    have hs2 := hIx.one
    have n0 : (0 : Int) ≤ (i : Int) := by omega
    have n1 : (i : Int) < (f.ls.length : Int) := by omega
    clear h h1 hr hI him hv hIx
    generalize f.ls[i].1 = x at *
    go_enter Try.func15, Try.ntmps15
    go_wp2_with (go_at_call 22; refine hsz.mono ?_; rintro e w3 ⟨rfl, hw3⟩; obtain rfl : _ = w3 := hw3.symm)
    refine bodyPost_ret (res_Hash2 rfl _ _ rfl (rng?_alloc_at _ _ _ _ _ rfl hs1)) rfl ⟨by rw [e1.out, e2.out]; rfl, ?_⟩
    exact (Chg.refl _ _).alloc _
theorem dCut_far (w : World) (b : Nat) (f : FS) (h : FdIs w b f) (hl : f.ls.length ≤ 100000) (n : Nat) (hn : f.ls.length < n) (hn2 : n < 18446744073709551616) : Calls Try.prog 18 #[.pointer (some ⟨b, 0, none⟩), .int .u64 n] w (Res w [] (.int .i64 30)) := by
  have hsz := dSize_calls w b f h (by omega)
  clear h
  go_enter Try.func18, Try.ntmps18
  go_wp2_with (go_at_call 22; refine hsz.mono ?_; rintro e w3 ⟨rfl, hw3⟩; obtain rfl : _ = w3 := hw3.symm)
  go_ret
  exact ⟨rfl, Chg.refl _ _⟩

/-! A row without its last one. -/
theorem own_init {w : World} {base : Nat} {e : TypeId} {size n c : Nat} {A : Option Addr} {xs ys : List Value} (h : w.ownsRow base e size (.slice A (n + 1) c) (n + 1) (xs ++ ys)) (hxs : xs.length = n * size) :
    ∃ g, A = some ⟨g, 0, none⟩ ∧ n + 1 ≤ c ∧ c ≤ maxLen ∧ base ≤ g ∧ w.ownsRow base e size (.slice A n c) n xs := by
  rcases h.2 with ⟨hv, h0⟩ | ⟨g, cap, cur, hv, hb, hh, hnc, hm, hcs, ht⟩
  · omega
  · injection hv with e1 e2 e3
    subst e1 e3
    refine ⟨g, rfl, hnc, hm, hb, hxs, .inr ⟨g, c, cur, rfl, hb, hh, by omega, hm, hcs, ?_⟩⟩
    have q := congrArg (List.take (n * size)) ht
    rw [List.take_take, Nat.min_eq_left (Nat.mul_le_mul_right _ (by omega)), List.take_left' hxs] at q
    exact q
theorem UOwn.init {w : World} {B n c x : Nat} {A : Option Addr} {l : List Nat} (h : UOwn w B (.slice A (n + 1) c) (l ++ [x])) (hl : l.length = n) : ∃ g, A = some ⟨g, 0, none⟩ ∧ n + 1 ≤ c ∧ c ≤ maxLen ∧ UOwn w B (.slice A n c) l := by
  unfold UOwn at h
  rw [List.map_append, List.length_append, List.length_singleton, hl] at h
  obtain ⟨g, h1, h2, h3, _, h4⟩ := own_init h (by simp [hl])
  refine ⟨g, h1, h2, h3, ?_⟩
  unfold UOwn
  rw [hl]
  exact h4
theorem HOwn.init {w : World} {B n c : Nat} {x : Array Value} {A : Option Addr} {l : List (Array Value)} (h : HOwn w B (.slice A (n + 1) c) (l ++ [x])) (hl : l.length = n) : ∃ g, A = some ⟨g, 0, none⟩ ∧ n + 1 ≤ c ∧ c ≤ maxLen ∧ HOwn w B (.slice A n c) l := by
  have hI : ∀ y ∈ l, IsHash y := fun y hy => h.2 y (by simp [hy])
  have h1 := h.1
  rw [List.flatMap_append, List.length_append, List.length_singleton, hl] at h1
  obtain ⟨g, h1, h2, h3, _, h4⟩ := own_init h1 (by rw [flat_length hI, hl])
  refine ⟨g, h1, h2, h3, ?_, hI⟩
  rw [hl]
  exact h4

/-- All of a find but its head. -/
structure FdCore (w : World) (b : Nat) (f : FS) : Prop where
  row : HOwn w 0 f.lv (f.ls.map (·.1))
  map : MapIs encH w f.m f.mp
  val : ∀ k v, (k, v) ∈ f.mp → UOwn w 0 v (idxOf k f.ls) ∧ k ∈ f.ls
  has : ∀ k ∈ f.ls, (mget f.mp k).isSome = true
  bm : b ≠ f.m
  bl : b ∉ ob f.lv
  ml : f.m ∉ ob f.lv
  vb : ∀ k v, (k, v) ∈ f.mp → b ∉ ob v ∧ f.m ∉ ob v ∧ ∀ x ∈ ob v, x ∉ ob f.lv
  vv : ∀ k v k' v', (k, v) ∈ f.mp → (k', v') ∈ f.mp → k ≠ k' → ∀ x ∈ ob v, x ∉ ob v'
theorem FdIs.core {w : World} {b : Nat} {f : FS} (h : FdIs w b f) : FdCore w b f := ⟨h.row, h.map, h.val, h.has, h.bm, h.bl, h.ml, h.vb, h.vv⟩
theorem FdCore.is {w : World} {b : Nat} {f : FS} (h : FdCore w b f) (hm : w.heap[b]? = some (.cells #[f.lv, .map (some f.m)] 72 (0, 0))) : FdIs w b f := ⟨hm, h.row, h.map, h.val, h.has, h.bm, h.bl, h.ml, h.vb, h.vv⟩
theorem FdCore.chg0 {w w' : World} {b : Nat} {f : FS} {F : List Nat} (h : FdCore w b f) (hc : Chg F w w') (hb : ∀ x ∈ f.foot b, x ∈ F → x = b) : FdCore w' b f := by
  have hne : ∀ x ∈ f.foot b, x ≠ b → x ∉ F := fun x hx hn hF => hn (hb x hx hF)
  exact ⟨h.row.chg hc (fun x hx => hne x (FS.foot_row hx) (fun e => h.bl (e ▸ hx))), h.map.chg hc (hne _ FS.foot_map (fun e => h.bm e.symm)), fun k v hk => ⟨own_chg (h.val k v hk).1 hc (fun x hx => hne x (FS.foot_val hk hx) (fun e => (h.vb k v hk).1 (e ▸ hx))), (h.val k v hk).2⟩, h.has, h.bm, h.bl, h.ml, h.vb, h.vv⟩
theorem mem_del {K : Type} [DecidableEq K] {m : List (K × Value)} {a k : K} {v : Value} (h : (k, v) ∈ mdel m a) : k ≠ a ∧ (k, v) ∈ m := by
  unfold mdel at h
  rw [List.mem_filter] at h
  exact ⟨by simpa using h.2, h.1⟩
theorem FdCore.less {w w' : World} {b m n cap : Nat} {A : Option Addr} {l : List HK} {x : HK} {mp mp' : List (HK × Value)}
    (h : FdCore w b ⟨.slice A (n + 1) cap, m, l ++ [x], mp⟩) (hn : l.length = n) (hc : Chg [m] w w') (hm : MapIs encH w' m mp')
    (hmp : ∀ k v, (k, v) ∈ mp' → (k ≠ x ∧ (k, v) ∈ mp) ∨ (k = x ∧ x ∈ l ∧ UOwn w 0 v (idxOf x l) ∧ ∃ v0, (x, v0) ∈ mp ∧ ob v = ob v0))
    (hhas : ∀ k ∈ l, (mget mp' k).isSome = true) :
    FdCore w' b ⟨.slice A n cap, m, l, mp'⟩ ∧ ∀ y ∈ FS.foot ⟨.slice A n cap, m, l, mp'⟩ b, y ∈ FS.foot ⟨.slice A (n + 1) cap, m, l ++ [x], mp⟩ b := by
  have hrow := h.row
  simp only [List.map_append, List.map_cons, List.map_nil] at hrow
  obtain ⟨g, hg, _, _, hR⟩ := hrow.init (by simpa using hn)
  have hsrc : ∀ k v, (k, v) ∈ mp' → ∃ v0, (k, v0) ∈ mp ∧ ob v = ob v0 := by
    intro k v hk
    rcases hmp k v hk with ⟨_, q⟩ | ⟨rfl, _, _, v0, q, e⟩
    · exact ⟨v, q, rfl⟩
    · exact ⟨v0, q, e⟩
  have hoL : ob (.slice A n cap) = ob (.slice A (n + 1) cap) := by subst hg; rfl
  refine ⟨⟨hR.chg hc (fun y hy hm => h.ml (by rw [List.mem_singleton] at hm; rw [← hm]; rw [hoL] at hy; exact hy)), hm, fun k v hk => ?_, hhas, h.bm, by rw [hoL]; exact h.bl, by rw [hoL]; exact h.ml, fun k v hk => ?_, fun k v k' v' hk hk' hne y hy => ?_⟩, fun y hy => ?_⟩
  · rcases hmp k v hk with ⟨hne, q⟩ | ⟨rfl, hin, hU, v0, q, e⟩
    · have hv := h.val k v q
      have hu := hv.1
      rw [idxOf_append, if_neg (fun e => hne e.symm)] at hu
      refine ⟨own_chg hu hc (fun y hy hm => (h.vb k v q).2.1 (by rw [List.mem_singleton] at hm; rw [← hm]; exact hy)), ?_⟩
      rcases List.mem_append.1 hv.2 with r | r
      · exact r
      · exact absurd (by simpa using r) hne
    · exact ⟨own_chg hU hc (fun y hy hm => (h.vb k v0 q).2.1 (by rw [List.mem_singleton] at hm; rw [← hm, ← e]; exact hy)), hin⟩
  · obtain ⟨v0, q, e⟩ := hsrc k v hk
    have := h.vb k v0 q
    rw [e]
    exact ⟨this.1, this.2.1, fun y hy => by rw [hoL]; exact this.2.2 y hy⟩
  · obtain ⟨v0, q, e⟩ := hsrc k v hk
    obtain ⟨v1, q1, e1⟩ := hsrc k' v' hk'
    rw [e1]
    exact h.vv k v0 k' v1 q q1 hne y (by rw [← e]; exact hy)
  · rcases FS.foot_cases hy with q | q | q | ⟨k', v', q, q2⟩
    · rw [q]; exact FS.foot_head
    · rw [q]; exact FS.foot_map
    · exact FS.foot_row (by rw [← hoL]; exact q)
    · obtain ⟨v0, q3, e⟩ := hsrc k' v' q
      exact FS.foot_val q3 (by rw [← e]; exact q2)
theorem mem_of_idx {k : HK} {l : List HK} (h : 0 < (idxOf k l).length) : k ∈ l := by
  by_cases hk : k ∈ l
  · exact hk
  · rw [idxOf_none k l hk] at h; simp at h
theorem idx_of_mem {k : HK} {l : List HK} (h : k ∈ l) : 0 < (idxOf k l).length := by
  obtain ⟨i, hi, e⟩ := List.mem_iff_getElem.1 h
  rw [List.length_pos_iff]
  intro h0
  have : i ∈ idxOf k l := by
    unfold idxOf
    rw [List.mem_filter]
    exact ⟨by simpa using hi, by simp [List.getElem?_eq_getElem hi, e]⟩
  rw [h0] at this
  simp at this
end Go.Proofs.Ytonppfebmeehcaa

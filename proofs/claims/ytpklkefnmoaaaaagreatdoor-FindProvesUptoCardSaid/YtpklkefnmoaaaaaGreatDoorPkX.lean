/- Texts put into one by pack.py: FdF FdG SrtK FdH MapRng FdI FdJ FdK. -/
import Derived.Shelf.SlSortCmp.NoneTotal
import Derived.Shelf.SlSortCmp.InsertionK
import Derived.Sort.MapsRangeIn
import Derived.Maps.RangeWalk
import Derived.Test.YtpklkefnmoaaaaaGreatDoorPkW
import Derived.Test.YtpklkefnmoaaaaaGreatDoorPkB
import Derived.Test.YtpklkefnmoaaaaaGreatDoorLysortH
import Derived.Test.YtpklkefnmoaaaaaGreatDoorPkK
/- A find: Leaf; Cut walked. -/
namespace Go.Proofs.YtpklkefnmoaaaaaGreatDoor
open Go.RowKit
set_option linter.unusedVariables false
set_option linter.unusedSimpArgs false

def FS.leafH (f : FS) (i : Nat) : Array Value := ((f.ls[i]?).map (·.1)).getD zeroHash
def FS.leafE (f : FS) (i : Nat) : Int := if i < f.ls.length then 0 else 32
theorem own_init {w : World} {base : Nat} {e : TypeId} {size n c : Nat} {A : Option Addr} {xs ys : List Value} (h : w.ownsRow base e size (.slice A (n + 1) c) (n + 1) (xs ++ ys)) (hxs : xs.length = n * size) :
    ∃ g, A = some ⟨g, 0, none⟩ ∧ n + 1 ≤ c ∧ c ≤ maxLen ∧ base ≤ g ∧ w.ownsRow base e size (.slice A n c) n xs := by
  rcases h.2 with ⟨hv, h0⟩ | ⟨g, cap, cur, hv, hb, hh, hnc, hm, hcs, ht⟩
  · omega
  · injection hv with e1 e2 e3
    subst e1 e3
    refine ⟨g, rfl, hnc, hm, hb, hxs, .inr ⟨g, c, cur, rfl, hb, hh, by omega, hm, hcs, ?_⟩⟩
    have q := congrArg (List.take (n * size)) ht
    rw [List.take_take, Nat.min_eq_left (Nat.mul_le_mul_right _ (by omega)), List.take_left' hxs] at q
    exact q
theorem UOwn.init {w : World} {B n c x : Nat} {A : Option Addr} {l : List Nat} (h : UOwn w B (.slice A (n + 1) c) (l ++ [x])) (hl : l.length = n) : ∃ g, A = some ⟨g, 0, none⟩ ∧ n + 1 ≤ c ∧ c ≤ maxLen ∧ UOwn w B (.slice A n c) l := by
  unfold UOwn at h
  rw [List.map_append, List.length_append, List.length_singleton, hl] at h
  obtain ⟨g, h1, h2, h3, _, h4⟩ := own_init h (by simp [hl])
  refine ⟨g, h1, h2, h3, ?_⟩
  unfold UOwn
  rw [hl]
  exact h4
theorem HOwn.init {w : World} {B n c : Nat} {x : Array Value} {A : Option Addr} {l : List (Array Value)} (h : HOwn w B (.slice A (n + 1) c) (l ++ [x])) (hl : l.length = n) : ∃ g, A = some ⟨g, 0, none⟩ ∧ n + 1 ≤ c ∧ c ≤ maxLen ∧ HOwn w B (.slice A n c) l := by
  have hI : ∀ y ∈ l, IsHash y := fun y hy => h.2 y (by simp [hy])
  have h1 := h.1
  rw [List.flatMap_append, List.length_append, List.length_singleton, hl] at h1
  obtain ⟨g, h1, h2, h3, _, h4⟩ := own_init h1 (by rw [flat_length hI, hl])
  refine ⟨g, h1, h2, h3, ?_, hI⟩
  rw [hl]
  exact h4

/-- All of a find but its head. -/
structure FdCore (w : World) (b : Nat) (f : FS) : Prop where
  row : HOwn w 0 f.lv (f.ls.map (·.1))
  map : MapIs encH w f.m f.mp
  val : ∀ k v, (k, v) ∈ f.mp → UOwn w 0 v (idxOf k f.ls) ∧ k ∈ f.ls
  has : ∀ k ∈ f.ls, (mget f.mp k).isSome = true
  bm : b ≠ f.m
  bl : b ∉ ob f.lv
  ml : f.m ∉ ob f.lv
  vb : ∀ k v, (k, v) ∈ f.mp → b ∉ ob v ∧ f.m ∉ ob v ∧ ∀ x ∈ ob v, x ∉ ob f.lv
  vv : ∀ k v k' v', (k, v) ∈ f.mp → (k', v') ∈ f.mp → k ≠ k' → ∀ x ∈ ob v, x ∉ ob v'
theorem FdIs.core {w : World} {b : Nat} {f : FS} (h : FdIs w b f) : FdCore w b f := ⟨h.row, h.map, h.val, h.has, h.bm, h.bl, h.ml, h.vb, h.vv⟩
theorem FdCore.is {w : World} {b : Nat} {f : FS} (h : FdCore w b f) (hm : w.heap[b]? = some (.cells #[f.lv, .map (some f.m)] 146 (0, 0))) : FdIs w b f := ⟨hm, h.row, h.map, h.val, h.has, h.bm, h.bl, h.ml, h.vb, h.vv⟩
theorem FdCore.chg0 {w w' : World} {b : Nat} {f : FS} {F : List Nat} (h : FdCore w b f) (hc : Chg F w w') (hb : ∀ x ∈ f.foot b, x ∈ F → x = b) : FdCore w' b f := by
  have hne : ∀ x ∈ f.foot b, x ≠ b → x ∉ F := fun x hx hn hF => hn (hb x hx hF)
  exact ⟨h.row.chg hc (fun x hx => hne x (FS.foot_row hx) (fun e => h.bl (e ▸ hx))), h.map.chg hc (hne _ FS.foot_map (fun e => h.bm e.symm)), fun k v hk => ⟨own_chg (h.val k v hk).1 hc (fun x hx => hne x (FS.foot_val hk hx) (fun e => (h.vb k v hk).1 (e ▸ hx))), (h.val k v hk).2⟩, h.has, h.bm, h.bl, h.ml, h.vb, h.vv⟩
theorem mem_del {K : Type} [DecidableEq K] {m : List (K × Value)} {a k : K} {v : Value} (h : (k, v) ∈ mdel m a) : k ≠ a ∧ (k, v) ∈ m := by
  unfold mdel at h
  rw [List.mem_filter] at h
  exact ⟨by simpa using h.2, h.1⟩
theorem FdCore.less {w w' : World} {b m n cap : Nat} {A : Option Addr} {l : List HK} {x : HK} {mp mp' : List (HK × Value)}
    (h : FdCore w b ⟨.slice A (n + 1) cap, m, l ++ [x], mp⟩) (hn : l.length = n) (hc : Chg [m] w w') (hm : MapIs encH w' m mp')
    (hmp : ∀ k v, (k, v) ∈ mp' → (k ≠ x ∧ (k, v) ∈ mp) ∨ (k = x ∧ x ∈ l ∧ UOwn w 0 v (idxOf x l) ∧ ∃ v0, (x, v0) ∈ mp ∧ ob v = ob v0))
    (hhas : ∀ k ∈ l, (mget mp' k).isSome = true) :
    FdCore w' b ⟨.slice A n cap, m, l, mp'⟩ ∧ ∀ y ∈ FS.foot ⟨.slice A n cap, m, l, mp'⟩ b, y ∈ FS.foot ⟨.slice A (n + 1) cap, m, l ++ [x], mp⟩ b := by
  have hrow := h.row
  simp only [List.map_append, List.map_cons, List.map_nil] at hrow
  obtain ⟨g, hg, _, _, hR⟩ := hrow.init (by simpa using hn)
  have hsrc : ∀ k v, (k, v) ∈ mp' → ∃ v0, (k, v0) ∈ mp ∧ ob v = ob v0 := by
    intro k v hk
    rcases hmp k v hk with ⟨_, q⟩ | ⟨rfl, _, _, v0, q, e⟩
    · exact ⟨v, q, rfl⟩
    · exact ⟨v0, q, e⟩
  have hoL : ob (.slice A n cap) = ob (.slice A (n + 1) cap) := by subst hg; rfl
  refine ⟨⟨hR.chg hc (fun y hy hm => h.ml (by rw [List.mem_singleton] at hm; rw [← hm]; rw [hoL] at hy; exact hy)), hm, fun k v hk => ?_, hhas, h.bm, by rw [hoL]; exact h.bl, by rw [hoL]; exact h.ml, fun k v hk => ?_, fun k v k' v' hk hk' hne y hy => ?_⟩, fun y hy => ?_⟩
  · rcases hmp k v hk with ⟨hne, q⟩ | ⟨rfl, hin, hU, v0, q, e⟩
    · have hv := h.val k v q
      have hu := hv.1
      rw [idxOf_append, if_neg (fun e => hne e.symm)] at hu
      refine ⟨own_chg hu hc (fun y hy hm => (h.vb k v q).2.1 (by rw [List.mem_singleton] at hm; rw [← hm]; exact hy)), ?_⟩
      rcases List.mem_append.1 hv.2 with r | r
      · exact r
      · exact absurd (by simpa using r) hne
    · exact ⟨own_chg hU hc (fun y hy hm => (h.vb k v0 q).2.1 (by rw [List.mem_singleton] at hm; rw [← hm, ← e]; exact hy)), hin⟩
  · obtain ⟨v0, q, e⟩ := hsrc k v hk
    have := h.vb k v0 q
    rw [e]
    exact ⟨this.1, this.2.1, fun y hy => by rw [hoL]; exact this.2.2 y hy⟩
  · obtain ⟨v0, q, e⟩ := hsrc k v hk
    obtain ⟨v1, q1, e1⟩ := hsrc k' v' hk'
    rw [e1]
    exact h.vv k v0 k' v1 q q1 hne y (by rw [← e]; exact hy)
  · rcases FS.foot_cases hy with q | q | q | ⟨k', v', q, q2⟩
    · rw [q]; exact FS.foot_head
    · rw [q]; exact FS.foot_map
    · exact FS.foot_row (by rw [← hoL]; exact q)
    · obtain ⟨v0, q3, e⟩ := hsrc k' v' q
      exact FS.foot_val q3 (by rw [← e]; exact q2)
theorem mem_of_idx {k : HK} {l : List HK} (h : 0 < (idxOf k l).length) : k ∈ l := by
  by_cases hk : k ∈ l
  · exact hk
  · rw [idxOf_none k l hk] at h; simp at h
theorem idx_of_mem {k : HK} {l : List HK} (h : k ∈ l) : 0 < (idxOf k l).length := by
  obtain ⟨i, hi, e⟩ := List.mem_iff_getElem.1 h
  rw [List.length_pos_iff]
  intro h0
  have : i ∈ idxOf k l := by
    unfold idxOf
    rw [List.mem_filter]
    exact ⟨by simpa using hi, by simp [List.getElem?_eq_getElem hi, e]⟩
  rw [h0] at this
  simp at this
end Go.Proofs.YtpklkefnmoaaaaaGreatDoor

/- A find: Cut walked. -/
namespace Go.Proofs.YtpklkefnmoaaaaaGreatDoor
open Go.RowKit
set_option linter.unusedVariables false
set_option linter.unusedSimpArgs false

def CutP (w : World) (b : Nat) (f : FS) (n : Nat) (e : Ending) (w' : World) : Prop := ∃ f', e = .returned (.int .i64 0) ∧ FdIs w' b f' ∧ f'.ls = f.ls.take n ∧ Chg (f.foot b) w w' ∧ ∀ x ∈ f'.foot b, x ∈ f.foot b
/-- Half cut: k are left, but the row is the whole one yet. -/
structure CutMid (w wx : World) (b : Nat) (f : FS) (a : Option Addr) (cap k : Nat) (f' : FS) : Prop where
  core : FdCore wx b f'
  m : f'.m = f.m
  ls : f'.ls = f.ls.take k
  lv : f'.lv = .slice a k cap
  chg : Chg [f.m] w wx
  foot : ∀ x ∈ f'.foot b, x ∈ f.foot b
theorem FdCore.look {w : World} {b : Nat} {f : FS} (h : FdCore w b f) (k : HK) : (Instr.lookup 144 (.map (some f.m)) (.agg k.1) false).run Tryz.prog w = .ok ((mget f.mp k).getD (.slice none 0 0)) w := by
  have := h.map.look encH_law u_maph z_u64s k false
  simpa [encH] using this
def muY (t : TypeId) (m k v : Value) : Sem Unit := Instr.mapUpdate t m k v
theorem hold_muY (t : TypeId) (m k v : Value) : Instr.mapUpdate t m k v = muY t m k v := rfl
attribute [local go_sem ↓] hold_luY hold_muY
end Go.Proofs.YtpklkefnmoaaaaaGreatDoor

/- slices.SortFunc on a row of the call's own, in Chg's words. Nothing of a program. -/
namespace Go.Proofs.YtpklkefnmoaaaaaGreatDoor
open Go.RowKit Go.Shelf Go.Sort
set_option linter.unusedVariables false
set_option linter.unusedSimpArgs false
section
variable {α : Type} [Inhabited α]
omit [Inhabited α] in
theorem flatMap_at {enc : α → List Value} {k : Nat} (hk : ∀ x, (enc x).length = k) : ∀ (l : List α) (i : Nat) (hi : i < l.length) (j : Nat), j < k → (l.flatMap enc)[i * k + j]? = (enc l[i])[j]? := by
  intro l
  induction l with
  | nil => intro i hi; simp at hi
  | cons x l ih =>
    intro i hi j hj
    rw [List.flatMap_cons]
    cases i with
    | zero => rw [List.getElem?_append_left (by rw [hk]; omega)]; simp
    | succ i =>
      rw [List.getElem?_append_right (by rw [hk, Nat.succ_mul]; omega), hk, show (i + 1) * k + j - k = i * k + j from by rw [Nat.succ_mul]; omega, ih i (by simpa using hi) j hj]
      simp
omit [Inhabited α] in
theorem flatMap_len {enc : α → List Value} {k : Nat} (hk : ∀ x, (enc x).length = k) : ∀ (l : List α), (l.flatMap enc).length = l.length * k := by
  intro l
  induction l with
  | nil => simp
  | cons x l ih => rw [List.flatMap_cons, List.length_append, hk, ih, List.length_cons, Nat.succ_mul, Nat.add_comm]
theorem flatK_toList {enc : α → List Value} {k : Nat} (hk : ∀ x, (enc x).length = k) (l : List α) : (flatK enc k l.toArray).toList = l.flatMap enc := by
  rcases Nat.eq_zero_or_pos k with h0 | h0
  · subst h0
    have h1 := flatMap_len hk l
    rw [Nat.mul_zero] at h1
    rw [List.eq_nil_of_length_eq_zero h1]
    simp [flatK]
  · apply List.ext_getElem?
    intro t
    by_cases ht : t < l.length * k
    · have hi : t / k < l.length := Nat.div_lt_of_lt_mul (by rw [Nat.mul_comm]; exact ht)
      have hj : t % k < k := Nat.mod_lt _ h0
      have e := flatMap_at hk l (t / k) hi (t % k) hj
      rw [show t / k * k + t % k = t from by rw [Nat.mul_comm]; exact Nat.div_add_mod t k] at e
      rw [e]
      have hl : t % k < (enc l[t / k]).length := by rw [hk]; exact hj
      simp only [flatK, Array.toList_map, Array.toList_range, List.size_toArray, List.getElem?_map, List.getElem?_range ht, Option.map_some]
      have e2 : l.toArray[t / k]! = l[t / k] := by rw [getElem!_pos _ _ (by simpa using hi)]; simp
      rw [e2, getElem!_pos (enc l[t / k]) (t % k) hl, List.getElem?_eq_getElem hl]
    · rw [List.getElem?_eq_none (by simp [flatK]; omega), List.getElem?_eq_none (by rw [flatMap_len hk]; omega)]
theorem srt_heap {enc : α → List Value} {k : Nat} {w : World} {g n : Nat} {os : Array Obj} {cur : Array Value} {e : TypeId} {fr : Nat × Nat} (d : Array α) (hb : w.heap[g]? = some (.cells cur e fr)) :
    (sortWorldK enc k w g 0 n d os).heap[g]? = some (.cells (putCells id 0 (flatK enc k d) cur) e fr) := by
  have hg : g < w.heap.size := (Array.getElem?_eq_some_iff.1 hb).1
  unfold sortWorldK
  rw [heap_grow_old _ _ (by simpa [putRowK] using hg)]
  simp [putRowK, putRow, mapBlock, Sort.ahead, Array.getElem?_modify, hb, onCells]
theorem srt_chg {enc : α → List Value} {k : Nat} {w : World} {g n : Nat} {os : Array Obj} (d : Array α) : Chg [g] w (sortWorldK enc k w g 0 n d os) := by
  refine ⟨rfl, rfl, rfl, by simp [sortWorldK, putRowK, mapBlock, Sort.ahead, putRow], fun j hj hne => ?_⟩
  unfold sortWorldK
  rw [heap_grow_old _ _ (by simpa [putRowK] using hj)]
  have : g ≠ j := fun e => hne (by simp [e])
  simp [putRowK, putRow, mapBlock, Sort.ahead, Array.getElem?_modify, this]
theorem take_put (cur F : Array Value) (h : F.size ≤ cur.size) : (putCells id 0 F cur).toList.take F.size = F.toList := by
  apply List.ext_getElem?
  intro j
  by_cases hj : j < F.size
  · rw [List.getElem?_take_of_lt hj, Array.getElem?_toList]
    simp [putCells, hj, show j < cur.size by omega]
  · rw [List.getElem?_take_eq_none (by omega), List.getElem?_eq_none (by simp; omega)]
variable {P : Program} {ρ : Ren}
/-- What sorting comes to. -/
def SortP (cf : α → α → Int) (enc : α → List Value) (k base : Nat) (e : TypeId) (v : Value) (l : List α) (w : World) (en : Ending) (w' : World) : Prop :=
  en = .returned (.tuple #[]) ∧ ∃ l' : List α, l'.Perm l ∧ (∀ i j (hi : i < j) (hj : j < l'.length), ¬ cf l'[j] l'[i] < 0) ∧ w'.ownsRow base e k v l.length (l'.flatMap enc) ∧ Chg (ob v) w w'
theorem sort_calls (L : SlLaysF0.n6 P ρ) (k : Nat) (aE : ∀ w, (isAgg (ρ.t 24)).run P w = .ok true w) (zE : ∀ w, (Go.sizeOf (ρ.t 24)).run P w = .ok k w) (enc : α → List Value) (hk : ∀ x, (enc x).length = k) (h1 : ∀ x, ∀ v ∈ enc x, v.oneCell' = true) (cf : α → α → Int) (hO : SWO (ltOf cf)) (g : Nat) (cb : Array Value)
    (eg : ∀ args w, (callFunc g args).run P w = .ok (.enter g args) w) (w : World) (base : Nat) (e : TypeId) (v : Value) (l : List α) (hown : w.ownsRow base e k v l.length (l.flatMap enc)) (hlen : l.length < 4611686018427387904)
    (hcmp : ∀ blk, ob v = [blk] → CmpLays P g cb enc k cf blk 0 l.length w) :
    Calls P (ρ.f 6) #[v, .func (.func g) #[] cb] w (SortP cf enc k base e v l w) := by
  rcases hown.2 with ⟨hv, h0⟩ | ⟨g0, cap, cur, hv, hb, hh, hnc, hcm, hcs, ht⟩
  · have hl : l = [] := List.eq_nil_of_length_eq_zero h0
    subst hl
    subst hv
    refine (AnyF.slices_SortFunc_none L none 0 _ w).mono ?_
    rintro en w' ⟨rfl, rfl⟩
    exact ⟨rfl, [], List.Perm.refl _, by simp, by simpa using hown, Chg.refl _ _⟩
  · subst hv
    have hF := flatK_toList hk l
    have hFs : (flatK enc k l.toArray).size = l.length * k := by rw [← Array.length_toList, hF, flatMap_len hk]
    have hcz : l.length * k ≤ cur.size := by rw [hcs]; exact Nat.mul_le_mul_right k hnc
    have hH : HoldsK enc k w g0 0 l.toArray := by
      intro j hj
      rw [hFs] at hj
      refine ⟨?_, blk_frozen hh _⟩
      rw [Nat.zero_add]
      refine blk_cell hh j ?_
      have h3 : (cur.toList.take (l.length * k))[j]? = (l.flatMap enc)[j]? := by rw [ht]
      rw [List.getElem?_take_of_lt hj, Array.getElem?_toList] at h3
      rw [h3, ← hF, Array.getElem?_toList, getElem!_pos _ _ (by omega), Array.getElem?_eq_getElem (by omega)]
      rfl
    have hs := AnyQ.slices_SortFunc L k aE zE enc hk h1 cf hO g cb g0 0 cap l.toArray w eg (by simpa using hcmp g0 rfl) hH (blk_lt hh) (by simpa using hlen)
    rw [show l.toArray.size = l.length from by simp] at hs
    refine hs.mono ?_
    rintro en w' ⟨rfl, d', n, os, hp, hsrt, rfl⟩
    have hsz : d'.size = l.length := by simpa using hp.1
    refine ⟨rfl, d'.toList, ?_, ?_, ?_, srt_chg d'⟩
    · have := hp.2.2
      have e1 : d'.extract 0 l.length = d' := by rw [← hsz]; simp
      have e2 : l.toArray.extract 0 l.length = l.toArray := by rw [show l.length = l.toArray.size from by simp]; simp
      rw [e1, e2] at this
      simpa using this
    · intro i j hi hj
      simp only [Array.length_toList] at hj
      have := hsrt i j (Nat.zero_le _) hi (by omega)
      rw [getElem!_pos _ _ (by omega), getElem!_pos _ _ (by omega)] at this
      simpa [ltOf] using this
    · have hd : flatK enc k d' = flatK enc k d'.toList.toArray := by simp
      have hF2 := flatK_toList hk d'.toList
      have hFs2 : (flatK enc k d').size = l.length * k := by rw [hd, ← Array.length_toList, hF2, flatMap_len hk, Array.length_toList, hsz]
      refine ⟨by rw [flatMap_len hk, Array.length_toList, hsz], .inr ⟨g0, cap, _, rfl, hb, srt_heap d' hh, hnc, hcm, by simp [putCells, hcs], ?_⟩⟩
      rw [← hFs2, take_put _ _ (by rw [hFs2]; exact hcz), hd, hF2]
end
end Go.Proofs.YtpklkefnmoaaaaaGreatDoor

/- A find: which hashes stand twice (plain); the comparison of the sort. -/
namespace Go.Proofs.YtpklkefnmoaaaaaGreatDoor
open Go.RowKit Go.Shelf Go.Sort
set_option linter.unusedVariables false
set_option linter.unusedSimpArgs false

/-- The first index at which a hash stands. -/
def fstN (k : HK) (ls : List HK) : Nat := (idxOf k ls).headD 0
theorem fstN_at {k : HK} {ls : List HK} (h : k ∈ ls) : ls[fstN k ls]? = some k ∧ fstN k ls < ls.length := by
  have hp := idx_of_mem h
  have hm : fstN k ls ∈ idxOf k ls := by
    unfold fstN
    cases hq : idxOf k ls with
    | nil => rw [hq] at hp; simp at hp
    | cons x l => simp
  unfold idxOf at hm
  rw [List.mem_filter] at hm
  exact ⟨by simpa using hm.2, by simpa using hm.1⟩
theorem fstN_inj {k k' : HK} {ls : List HK} (h : k ∈ ls) (h' : k' ∈ ls) (e : fstN k ls = fstN k' ls) : k = k' := by
  have h1 := (fstN_at h).1
  have h2 := (fstN_at h').1
  rw [e, h2] at h1
  exact (Option.some.inj h1).symm
theorem idx_sorted (k : HK) (ls : List HK) : (idxOf k ls).Pairwise (· < ·) := by
  unfold idxOf
  exact List.Pairwise.filter _ (List.pairwise_lt_range)
/-- Those that stand twice, as they come. -/
def tw1 (ls : List HK) (i : Nat) : Option HK := match ls[i]? with
  | some k => if fstN k ls = i ∧ 1 < (idxOf k ls).length then some k else none
  | none => none
def twiceL (ls : List HK) : List HK := (List.range ls.length).filterMap (tw1 ls)
theorem tw1_some {ls : List HK} {i : Nat} {k : HK} (h : tw1 ls i = some k) : ls[i]? = some k ∧ fstN k ls = i ∧ 1 < (idxOf k ls).length := by
  unfold tw1 at h
  split at h
  · rename_i x hx
    split at h
    · rename_i hc
      have : x = k := by simpa using h
      subst this
      exact ⟨hx, hc.1, hc.2⟩
    · cases h
  · cases h
theorem mem_twice {ls : List HK} {k : HK} : k ∈ twiceL ls ↔ k ∈ ls ∧ 1 < (idxOf k ls).length := by
  unfold twiceL
  rw [List.mem_filterMap]
  constructor
  · rintro ⟨i, _, h⟩
    obtain ⟨h1, h2, h3⟩ := tw1_some h
    exact ⟨List.mem_iff_getElem?.2 ⟨i, h1⟩, h3⟩
  · rintro ⟨h1, h2⟩
    obtain ⟨a, b⟩ := fstN_at h1
    exact ⟨fstN k ls, by simpa using b, by unfold tw1; rw [a]; simp [h2]⟩
theorem twice_up (ls : List HK) : (twiceL ls).Pairwise (fun a b => fstN a ls < fstN b ls) := by
  unfold twiceL
  rw [List.pairwise_filterMap]
  refine List.Pairwise.imp ?_ (List.pairwise_lt_range)
  intro i j hij a ha b hb
  rw [(tw1_some ha).2.1, (tw1_some hb).2.1]
  exact hij
theorem twice_nodup (ls : List HK) : (twiceL ls).Nodup := (twice_up ls).imp (fun h e => by subst e; omega)
theorem twice_unique {ls l : List HK} (hn : l.Nodup) (hm : ∀ k, k ∈ l ↔ k ∈ ls ∧ 1 < (idxOf k ls).length) (hs : l.Pairwise (fun a b => fstN a ls ≤ fstN b ls)) : l = twiceL ls := by
  refine List.Perm.eq_of_pairwise (le := fun a b => fstN a ls ≤ fstN b ls) (fun a b ha hb h1 h2 => fstN_inj ((hm a).1 ha).1 (mem_twice.1 hb).1 (by omega)) hs ((twice_up ls).imp (fun h => by omega)) ?_
  rw [List.perm_ext_iff_of_nodup hn (twice_nodup ls)]
  intro k
  rw [hm, mem_twice]

def cmpN (a b : Nat) : Int := if a < b then -1 else if b < a then 1 else 0
set_option maxRecDepth 100000 in
theorem cmp_calls (a b : Nat) (ha : a < 18446744073709551616) (hb : b < 18446744073709551616) (w : World) : Calls Tryz.prog 178 #[.int .u64 a, .int .u64 b] w fun e w' => e = .returned (.int .i64 (cmpN a b)) ∧ w' = w := by
  have hnan : ∀ (x : Nat) (W : World), Calls Tryz.prog 218 #[.int .u64 x] W fun e w' => e = .returned (.bool false) ∧ w' = W := by
    intro x W
    go_enter Tryz.func218, Tryz.ntmps218
    go_wp2
    go_ret
    exact ⟨rfl, rfl⟩
  rcases Nat.lt_trichotomy a b with h | h | h
  · have hc := Lib.hid (show cmpN a b = -1 from if_pos h)
    have h2 : ¬ b < a := by omega
    go_enter Tryz.func178, Tryz.ntmps178
    go_wp2_with (go_at_call 218; refine (hnan _ _).mono ?_; rintro e w1 ⟨rfl, hw1⟩; obtain rfl : w = w1 := hw1.symm)
    go_ret
    exact ⟨by rw [hc.out]; rfl, rfl⟩
  · subst h
    have hc := Lib.hid (show cmpN a a = 0 from by unfold cmpN; rw [if_neg (by omega), if_neg (by omega)])
    go_enter Tryz.func178, Tryz.ntmps178
    go_wp2_with (go_at_call 218; refine (hnan _ _).mono ?_; rintro e w1 ⟨rfl, hw1⟩; obtain rfl : w = w1 := hw1.symm)
    go_ret
    exact ⟨by rw [hc.out]; rfl, rfl⟩
  · have hc := Lib.hid (show cmpN a b = 1 from by unfold cmpN; rw [if_neg (by omega), if_pos h])
    have h2 : ¬ a < b := by omega
    go_enter Tryz.func178, Tryz.ntmps178
    go_wp2_with (go_at_call 218; refine (hnan _ _).mono ?_; rintro e w1 ⟨rfl, hw1⟩; obtain rfl : w = w1 := hw1.symm)
    go_ret
    exact ⟨by rw [hc.out]; rfl, rfl⟩
theorem head0 : ∀ (l : List Nat) (h : 0 < l.length), l[0] = l.headD 0
  | x :: l, _ => rfl
/-- A hash's own list of indices. -/
theorem FdIs.ent {w : World} {b : Nat} {f : FS} (h : FdIs w b f) {k : HK} (hk : k ∈ f.ls) : ∃ g n c, (∀ W, Chg [] w W → (luY 144 (.map (some f.m)) (.agg k.1) false).run Tryz.prog W = .ok (.slice (some ⟨g, 0, none⟩) n c) W) ∧ 0 < n ∧ n = (idxOf k f.ls).length ∧ g < w.heap.size ∧ w.cell? ⟨g, 0, none⟩ = some (.int .u64 (fstN k f.ls : Nat)) := by
  obtain ⟨v, hv⟩ := Option.isSome_iff_exists.1 (h.has k hk)
  have hU := (h.val k v (mget_mem hv)).1
  obtain ⟨a, c, rfl⟩ := hU.shapeU
  have hp := idx_of_mem hk
  obtain ⟨_, g, rfl, hg, hc⟩ := hU.cellU hp
  refine ⟨g, _, c, fun W hW => ?_, hp, rfl, hg, ?_⟩
  · have := (h.chg0 hW).look k
    rw [hv] at this
    exact this
  · rw [hc]
    unfold fstN
    rw [head0 _ hp]
attribute [local go_sem ↓] hold_luY
set_option maxRecDepth 100000 in
set_option maxHeartbeats 2000000 in
theorem tw1_calls (W : World) (B b : Nat) (f : FS) (hB : W.cell? ⟨B, 0, none⟩ = some (.pointer (some ⟨b, 0, none⟩))) (h : FdIs W b f) (hl : f.ls.length ≤ 100000) (x y : HK) (hx : x ∈ f.ls) (hy : y ∈ f.ls) :
    Calls Tryz.prog 177 #[.agg x.1, .agg y.1, .pointer (some ⟨B, 0, none⟩)] W fun e w' => e = .returned (.int .i64 (cmpN (fstN x f.ls) (fstN y f.ls))) ∧ ∃ q os', w' = grow (W.drewN q) os' := by
  have hA : Chg [] W ((W.alloc (.cells x.1 36)).alloc (.cells y.1 36)) := ((Chg.refl _ _).alloc _).alloc _
  obtain ⟨gx, nx, cx, lx, px, _, qx, kx⟩ := h.ent hx
  obtain ⟨gy, ny, cy, ly, py, _, qy, ky⟩ := h.ent hy
  have fx := (fstN_at hx).2
  have fy := (fstN_at hy).2
  have hBl := World.block_lt_of_cell? _ _ hB
  have hb := blk_lt h.mem
  have hc1 : W.cell? ⟨b, 1, none⟩ = some (.map (some f.m)) := blk_cell h.mem 1 rfl
  have hcmp := fun W' => cmp_calls (fstN x f.ls) (fstN y f.ls) (by omega) (by omega) W'
  have l1 := fun n => lx _ (hA.drewN n)
  have l2 := fun n => ly _ (hA.drewN n)
  have xs := x.2.1
  have xo := x.2.one
  have ys := y.2.1
  have yo := y.2.one
  have b1 := rng?_chg ((Chg.refl [] (W.alloc (.cells x.1 36))).alloc (.cells y.1 36)) (rng?_alloc_at W W.heap.size 32 x.1 36 rfl xs) (by omega) (by simp)
  have b2 := rng?_alloc_at (W.alloc (.cells x.1 36)) (W.alloc (.cells x.1 36)).heap.size 32 y.1 36 rfl ys
  rw [World.size_alloc] at b2
  have a1 : ((W.alloc (.cells x.1 36)).alloc (.cells y.1 36)).cell? ⟨B, 0, none⟩ = some (.pointer (some ⟨b, 0, none⟩)) := by rw [hA.cell (p := ⟨B, 0, none⟩) hBl (by simp)]; exact hB
  have a2 : ((W.alloc (.cells x.1 36)).alloc (.cells y.1 36)).cell? ⟨b, 1, none⟩ = some (.map (some f.m)) := by rw [hA.cell (p := ⟨b, 1, none⟩) hb (by simp)]; exact hc1
  have a3 : ((W.alloc (.cells x.1 36)).alloc (.cells y.1 36)).cell? ⟨gx, 0, none⟩ = some (.int .u64 (fstN x f.ls : Nat)) := by rw [hA.cell (p := ⟨gx, 0, none⟩) qx (by simp)]; exact kx
  have a4 : ((W.alloc (.cells x.1 36)).alloc (.cells y.1 36)).cell? ⟨gy, 0, none⟩ = some (.int .u64 (fstN y f.ls : Nat)) := by rw [hA.cell (p := ⟨gy, 0, none⟩) qy (by simp)]; exact ky
  obtain ⟨W2, hW2⟩ : ∃ W2, (W.alloc (.cells x.1 36)).alloc (.cells y.1 36) = W2 := ⟨_, rfl⟩
  have HW2 := Lib.hid hW2
  simp only [hW2] at l1 l2
  rw [hW2] at b1 b2 a1 a2 a3 a4
  clear h hA lx ly kx ky hB hc1 hx hy hW2 fx fy
  generalize fstN x f.ls = fx at *
  generalize fstN y f.ls = fy at *
  generalize cmpN fx fy = cc at *
  go_enter Tryz.func177, Tryz.ntmps177
  go_upto_region 1 with (fail)
  rw [HW2.out]
  go_quiet ((go_at_call 178; exact Calls.quiet_of_same (hcmp _)))
  go_wp2
  go_ret
  refine ⟨rfl, nq, #[.cells x.1 36, .cells y.1 36], ?_⟩
  rw [← HW2.out, alloc_eq_grow, alloc_eq_grow, grow_grow]
  rfl
end Go.Proofs.YtpklkefnmoaaaaaGreatDoor

/- A range over a map, under way: which keys have come, which are still to come. Nothing of a program. -/
namespace Go.Proofs.YtpklkefnmoaaaaaGreatDoor
open Go.RowKit
set_option linter.unusedVariables false
set_option linter.unusedSimpArgs false

theorem filter_born {e : MapEntry} : ∀ {l : List MapEntry} {i : Nat}, (l.map (·.born)).Nodup → l[i]? = some e → l.filter (fun x => !(x.born == e.born)) = l.eraseIdx i := by
  intro l
  induction l with
  | nil => intro i _ h; simp at h
  | cons x l ih =>
    intro i hn h
    simp only [List.map_cons, List.nodup_cons] at hn
    cases i with
    | zero =>
      simp at h
      subst h
      rw [List.filter_cons_of_neg (by simp), List.eraseIdx_cons_zero, List.filter_eq_self]
      intro y hy
      simp only [Bool.not_eq_true', beq_eq_false_iff_ne]
      intro e1
      exact hn.1 (List.mem_map.2 ⟨y, hy, e1⟩)
    | succ i =>
      simp at h
      have hx : ¬ x.born = e.born := fun e1 => hn.1 (List.mem_map.2 ⟨e, List.mem_of_getElem? h, e1.symm⟩)
      rw [List.filter_cons_of_pos (by simp [hx]), List.eraseIdx_cons_succ, ih hn.2 h]

theorem erase_perm {α : Type} : ∀ {l : List α} {i : Nat} (h : i < l.length), (l[i] :: l.eraseIdx i).Perm l := by
  intro l
  induction l with
  | nil => intro i h; simp at h
  | cons x l ih =>
    intro i h
    cases i with
    | zero => simp
    | succ i =>
      have := ih (i := i) (by simpa using h)
      simp only [List.getElem_cons_succ, List.eraseIdx_cons_succ]
      exact (List.Perm.swap _ _ _).trans (List.Perm.cons x this)

section
variable {K : Type} [DecidableEq K] {P : Program} {kt et t : TypeId} {enc : K → Value} {w : World} {b r : Nat} {m : List (K × Value)} {pre : List K} {cnt : Nat}
/-- The range in block r over the map m in block b: pre has come, cnt keys are still to come. -/
def RngIs (enc : K → Value) (w : World) (b r : Nat) (m : List (K × Value)) (pre : List K) (cnt : Nat) : Prop :=
  ∃ es clock since seen c0, ∃ left : List K, w.heap[b]? = some (.map es clock) ∧ EsIs enc es clock m ∧ w.heap[r]? = some (.mapIter (some b) since seen c0) ∧ (∀ e ∈ es.toList, e.born < since) ∧ since ≤ c0 ∧ since ≤ clock ∧
    (leftOf es seen).toList.map (·.key) = left.map enc ∧ left.length = cnt ∧ (pre ++ left).Perm (m.map (·.1))
/-- How many are still to come. -/
def rngLeft (w : World) (b r : Nat) : Nat := w.rangeLeft b r
omit [DecidableEq K] in
theorem RngIs.left (h : RngIs enc w b r m pre cnt) : rngLeft w b r = cnt := by
  obtain ⟨es, clock, since, seen, c0, left, hb, hE, hr, h1, h2, h2', h3, h4, h5⟩ := h
  unfold rngLeft World.rangeLeft
  rw [hb, hr]
  have := congrArg List.length h3
  simp at this
  simpa [← h4] using this
omit [DecidableEq K] in
theorem RngIs.map (h : RngIs enc w b r m pre cnt) : MapIs enc w b m := by
  obtain ⟨es, clock, since, seen, c0, left, hb, ⟨q1, q2, q3, q4⟩, hr, h1, h2, h3, h4, h5⟩ := h
  exact ⟨es, clock, hb, q1, q2, q3, q4⟩
omit [DecidableEq K] in
theorem RngIs.rest (h : RngIs enc w b r m pre cnt) : ∃ rest, (pre ++ rest).Perm (m.map (·.1)) := by
  obtain ⟨es, clock, since, seen, c0, left, hb, _, hr, h1, h2, h3, h4, h5, h6⟩ := h
  exact ⟨left, h6⟩
omit [DecidableEq K] in
theorem RngIs.chg {w' : World} {F : List Nat} (h : RngIs enc w b r m pre cnt) (hc : Chg F w w') (hb : b ∉ F) (hr : r ∉ F) : RngIs enc w' b r m pre cnt := by
  obtain ⟨es, clock, since, seen, c0, left, hb', hE, hr', h⟩ := h
  exact ⟨es, clock, since, seen, c0, left, hc.at hb' hb, hE, hc.at hr' hr, h⟩
omit [DecidableEq K] in
theorem RngIs.lt (h : RngIs enc w b r m pre cnt) : r < w.heap.size ∧ b < w.heap.size := by
  obtain ⟨es, clock, since, seen, c0, left, hb', hE, hr', h⟩ := h
  exact ⟨blk_lt hr', blk_lt hb'⟩
omit [DecidableEq K] in
theorem RngIs.ne (h : RngIs enc w b r m pre cnt) : r ≠ b := by
  obtain ⟨es, clock, since, seen, c0, left, hb', hE, hr', h⟩ := h
  intro e
  rw [e, hb'] at hr'
  cases hr'
omit [DecidableEq K] in
theorem MapIs.keys (h : MapIs enc w b m) : (m.map (·.1)).Nodup := by
  obtain ⟨es, clock, hb, q1, q2, q3, q4⟩ := h; exact q2
omit [DecidableEq K] in
theorem MapIs.range (h : MapIs enc w b m) (ht : P.underlying t = some (.map kt et)) :
    ∃ w', (Instr.range t (.map (some b))).run P w = .ok (.pointer (some ⟨w.heap.size, 0, none⟩)) w' ∧ RngIs enc w' b w.heap.size m [] m.length ∧ Chg [] w w' ∧ w'.heap.size = w.heap.size + 1 := by
  obtain ⟨es, clock, hb, hE⟩ := h
  have hl : (leftOf es #[]) = es := by unfold leftOf; simp
  refine ⟨_, run_range_map w t kt et b es clock ht hb, ⟨es, clock, clock, #[], clock, m.map (·.1), blk_alloc hb _, hE, blk_new w _, hE.2.2.2, Nat.le_refl _, Nat.le_refl _, ?_, by simp, by simp⟩, (Chg.refl _ _).alloc _, by simp⟩
  rw [hl]
  have := congrArg (List.map Prod.fst) hE.1
  rw [List.map_map, List.map_map] at this
  rw [List.map_map]
  exact this
theorem RngIs.next (h : RngIs enc w b r m pre cnt) (E : KeyEnc P kt enc) (ty : TypeId) :
    (cnt = 0 ∧ pre.Perm (m.map (·.1)) ∧ (Instr.next (.pointer (some ⟨r, 0, none⟩)) false ty).run P w = .ok (.tuple #[.bool false]) w) ∨
    ∃ k v w', (k, v) ∈ m ∧ k ∉ pre ∧ (Instr.next (.pointer (some ⟨r, 0, none⟩)) false ty).run P w = .ok (.tuple #[.bool true, enc k, v]) w' ∧ RngIs enc w' b r m (pre ++ [k]) (cnt - 1) ∧ 0 < cnt ∧ Chg [r] w w' ∧ w'.heap.size = w.heap.size ∧
      (Instr.entry (.pointer (some ⟨r, 0, none⟩))).run P w' = .ok (.tuple #[enc k, v]) w' := by
  have hne := h.ne
  obtain ⟨es, clock, since, seen, c0, left, hb, hE, hr, hold, hsc, hsk, hleft, hlen, hperm⟩ := h
  rcases run_next_at (P := P) w ty r b since c0 seen es clock hr hb hold hsc with ⟨h0, hrun⟩ | ⟨e, he, w1, hw1, hrun⟩
  · left
    have h1 : (leftOf es seen).toList = [] := List.eq_nil_of_length_eq_zero (by simpa using h0)
    rw [h1] at hleft
    have h2 : left = [] := by simpa using hleft.symm
    subst h2
    exact ⟨by simpa using hlen.symm, by simpa using hperm, hrun⟩
  · right
    obtain ⟨i, hi⟩ := List.mem_iff_getElem?.1 he
    have hii : i < (leftOf es seen).toList.length := (List.getElem?_eq_some_iff.1 hi).1
    have hlL : (leftOf es seen).toList.length = left.length := by have := congrArg List.length hleft; simpa using this
    have hil : i < left.length := by omega
    have hkey : e.key = enc left[i] := by
      have := congrArg (fun l => l[i]?) hleft
      simp only [List.getElem?_map, hi, Option.map_some, List.getElem?_eq_getElem hil] at this
      exact Option.some.inj this
    have hem := (mem_left he).1
    have hmm : (left[i], e.val) ∈ m := by
      have : (e.key, e.val) ∈ m.map (fun x => (enc x.1, x.2)) := by rw [← hE.1]; exact List.mem_map.2 ⟨e, hem, rfl⟩
      obtain ⟨x, hx, hxe⟩ := List.mem_map.1 this
      injection hxe with e1 e2
      have := E.inj _ _ (e1.trans hkey)
      rw [← this, ← e2]; exact hx
    have hnd : ((leftOf es seen).toList.map (·.born)).Nodup := by
      refine List.Sublist.nodup (List.Sublist.map _ ?_) hE.2.2.1
      unfold leftOf
      rw [Array.toList_filter]
      exact List.filter_sublist
    have hl2 : (leftOf es (seen.push e.born)).toList = (leftOf es seen).toList.eraseIdx i := by
      rw [← filter_born hnd hi]
      unfold leftOf
      rw [Array.toList_filter, Array.toList_filter, List.filter_filter]
      apply List.filter_congr
      intro x _
      rw [contains_push, Bool.not_or, Bool.and_comm]
    have hpp : (pre ++ [left[i]] ++ left.eraseIdx i).Perm (m.map (·.1)) := by
      refine List.Perm.trans ?_ hperm
      rw [List.append_assoc]
      exact List.Perm.append_left pre (erase_perm hil)
    have hnp : left[i] ∉ pre := by
      have hN : (pre ++ [left[i]] ++ left.eraseIdx i).Nodup := (hpp.nodup_iff).2 hE.2.1
      rw [List.append_assoc] at hN
      intro hm
      exact (List.nodup_append.1 hN).2.2 _ hm _ (by simp) rfl
    have hr1 : w1.heap[r]? = some (.mapIter (some b) since seen c0) := by rcases hw1 with rfl | rfl <;> exact hr
    have hb1 : w1.heap[b]? = some (.map es clock) := by rcases hw1 with rfl | rfl <;> exact hb
    have hc1 : Chg [r] w w1 := by
      rcases hw1 with rfl | rfl
      · exact Chg.refl _ _
      · exact (Chg.refl _ _).drew
    have hs1 : w1.heap.size = w.heap.size := by rcases hw1 with rfl | rfl <;> rfl
    have hb2 : (setMap w1 r (.mapIter (some b) since (seen.push e.born) clock)).heap[b]? = some (.map es clock) := (setMap_chg w1 r _).at hb1 (by simp; exact fun q => hne q.symm)
    have hr2 : (setMap w1 r (.mapIter (some b) since (seen.push e.born) clock)).heap[r]? = some (.mapIter (some b) since (seen.push e.born) clock) := setMap_at _ hr1
    refine ⟨left[i], e.val, setMap w1 r (.mapIter (some b) since (seen.push e.born) clock), hmm, hnp, by rw [← hkey]; exact hrun, ⟨es, clock, since, seen.push e.born, clock, left.eraseIdx i, hb2, hE, hr2, hold, hsk, hsk, ?_, ?_, hpp⟩, by omega, hc1.trans (setMap_chg _ _ _) (fun x hx => .inl hx), by simp [setMap, hs1], ?_⟩
    · rw [hl2, map_eraseIdx', hleft, ← map_eraseIdx']
    · rw [List.length_eraseIdx_of_lt hil]; omega
    · rw [← hkey]
      exact run_entry_at (P := P) _ r b since seen es clock e hr2 hb2 hem hE.2.2.1
end

section
variable {K : Type} [DecidableEq K] {P : Program} {kt et t : TypeId} {enc : K → Value} {b r : Nat} {m : List (K × Value)} {pre : List K} {cnt : Nat}
variable {F : Fence} {n : Nat} (w : World) {ops : Array Oper} {rest : List Oper} {o : Oper} {a : Act} {Q : Exit → Act → World → Prop}
omit [DecidableEq K] in
theorem wpIn_mrange (hg : o.guard = none) (x : Operand) (hop : o.op = Op.range t x) (ht : P.underlying t = some (.map kt et)) (hx : a.eval x = .map (some b)) (h : MapIs enc w b m)
    (hK : ∀ w', RngIs enc w' b w.heap.size m [] m.length → Chg [] w w' → w'.heap.size = w.heap.size + 1 → wpListIn F n P ops Q rest (a.put o.dst (.pointer (some ⟨w.heap.size, 0, none⟩))) w') :
    wpListIn F n P ops Q (o :: rest) a w := by
  refine wpListIn_plain hg fun K' hK' => ?_
  obtain ⟨w', hrun, r1, r2, r3⟩ := h.range (P := P) ht
  unfold Oper.wpIn
  refine ⟨by simp [Oper.about, hop], ?_⟩
  rw [Oper.semAt_plain F _ _ (by rw [hop]; intro c hc'; cases hc')]
  simp [execOp, hop, hx, hrun, Result.andThen]
  exact hK' _ _ (hK w' r1 r2 r3)
theorem wpIn_mnext (hg : o.guard = none) (it : Operand) (hop : o.op = Op.next it false) (E : KeyEnc P kt enc) (hit : a.eval it = .pointer (some ⟨r, 0, none⟩)) (h : RngIs enc w b r m pre cnt)
    (hDone : cnt = 0 → pre.Perm (m.map (·.1)) → wpListIn F n P ops Q rest (a.put o.dst (.tuple #[.bool false])) w)
    (hMore : ∀ k v w', (k, v) ∈ m → k ∉ pre → RngIs enc w' b r m (pre ++ [k]) (cnt - 1) → 0 < cnt → Chg [r] w w' → w'.heap.size = w.heap.size →
      (Instr.entry (.pointer (some ⟨r, 0, none⟩))).run P w' = .ok (.tuple #[enc k, v]) w' → wpListIn F n P ops Q rest (a.put o.dst (.tuple #[.bool true, enc k, v])) w') :
    wpListIn F n P ops Q (o :: rest) a w := by
  refine wpListIn_plain hg fun K' hK' => ?_
  unfold Oper.wpIn
  refine ⟨by simp [Oper.about, hop], ?_⟩
  rw [Oper.semAt_plain F _ _ (by rw [hop]; intro c hc'; cases hc')]
  rcases h.next E o.type with ⟨h0, hp, hrun⟩ | ⟨k, v, w', q1, q2, hrun, q3, q4, q5, q6, q7⟩
  · simp [execOp, hop, hit, hrun, Result.andThen]
    exact hK' _ _ (hDone h0 hp)
  · simp [execOp, hop, hit, hrun, Result.andThen]
    exact hK' _ _ (hMore k v w' q1 q2 q3 q4 q5 q6 q7)
omit [DecidableEq K] in
theorem wp_mrange (hg : o.guard = none) (x : Operand) (hop : o.op = Op.range t x) (ht : P.underlying t = some (.map kt et)) (hx : a.eval x = .map (some b)) (h : MapIs enc w b m)
    (hK : ∀ w', RngIs enc w' b w.heap.size m [] m.length → Chg [] w w' → w'.heap.size = w.heap.size + 1 → wpList P ops Q rest (a.put o.dst (.pointer (some ⟨w.heap.size, 0, none⟩))) w') :
    wpList P ops Q (o :: rest) a w := by
  refine wpList_plain hg fun K' hK' => ?_
  obtain ⟨w', hrun, r1, r2, r3⟩ := h.range (P := P) ht
  unfold Oper.wp
  simp [execOp, hop, hx, hrun, Result.andThen]
  exact hK' _ _ (hK w' r1 r2 r3)
theorem wp_mnext (hg : o.guard = none) (it : Operand) (hop : o.op = Op.next it false) (E : KeyEnc P kt enc) (hit : a.eval it = .pointer (some ⟨r, 0, none⟩)) (h : RngIs enc w b r m pre cnt)
    (hDone : cnt = 0 → pre.Perm (m.map (·.1)) → wpList P ops Q rest (a.put o.dst (.tuple #[.bool false])) w)
    (hMore : ∀ k v w', (k, v) ∈ m → k ∉ pre → RngIs enc w' b r m (pre ++ [k]) (cnt - 1) → 0 < cnt → Chg [r] w w' → w'.heap.size = w.heap.size →
      (Instr.entry (.pointer (some ⟨r, 0, none⟩))).run P w' = .ok (.tuple #[enc k, v]) w' → wpList P ops Q rest (a.put o.dst (.tuple #[.bool true, enc k, v])) w') :
    wpList P ops Q (o :: rest) a w := by
  refine wpList_plain hg fun K' hK' => ?_
  unfold Oper.wp
  rcases h.next E o.type with ⟨h0, hp, hrun⟩ | ⟨k, v, w', q1, q2, hrun, q3, q4, q5, q6, q7⟩
  · simp [execOp, hop, hit, hrun, Result.andThen]
    exact hK' _ _ (hDone h0 hp)
  · simp [execOp, hop, hit, hrun, Result.andThen]
    exact hK' _ _ (hMore k v w' q1 q2 q3 q4 q5 q6 q7)
end
end Go.Proofs.YtpklkefnmoaaaaaGreatDoor

/- A find: Twice walked. -/
namespace Go.Proofs.YtpklkefnmoaaaaaGreatDoor
open Go.RowKit Go.Shelf Go.Sort
set_option linter.unusedVariables false
set_option linter.unusedSimpArgs false

theorem isAgg_HashS (w : World) : (isAgg 36).run Tryz.prog w = .ok true w := by kernel_rfl
theorem sizeOf_HashS (w : World) : (Go.sizeOf 36).run Tryz.prog w = .ok 32 w := by kernel_rfl
def cfF (ls : List HK) (x y : {k : HK // k ∈ ls ∨ ls = []}) : Int := cmpN (fstN x.1 ls) (fstN y.1 ls)
def encF (ls : List HK) (x : {k : HK // k ∈ ls ∨ ls = []}) : List Value := x.1.1.toList
theorem cmpN_neg (a b : Nat) : cmpN a b < 0 ↔ a < b := by
  unfold cmpN
  by_cases h : a < b
  · simp [h]
  · rw [if_neg h]
    split <;> simp <;> omega
theorem ltF (ls : List HK) (x y : {k : HK // k ∈ ls ∨ ls = []}) : ltOf (cfF ls) x y = decide (fstN x.1 ls < fstN y.1 ls) := by
  unfold ltOf cfF
  rw [Bool.eq_iff_iff]
  simp [cmpN_neg]
theorem swoF (ls : List HK) : SWO (ltOf (cfF ls)) where
  irrefl x := by rw [ltF]; simp
  trans x y z h1 h2 := by rw [ltF] at *; simp at *; omega
  ntrans x y z h1 h2 := by rw [ltF] at *; simp at *; omega
theorem lift_list {α : Type} {p : α → Prop} : ∀ (l : List α), (∀ x ∈ l, p x) → ∃ L : List {x // p x}, L.map (·.1) = l
  | [], _ => ⟨[], rfl⟩
  | x :: l, h => by
    obtain ⟨L, e⟩ := lift_list l (fun y hy => h y (by simp [hy]))
    exact ⟨⟨x, h x (by simp)⟩ :: L, by simp [e]⟩
/-- Those of the keys that stand twice. -/
def tw (ls pre : List HK) : List HK := pre.filter fun k => decide (1 < (idxOf k ls).length)
theorem tw_snoc (ls pre : List HK) (k : HK) : tw ls (pre ++ [k]) = if 1 < (idxOf k ls).length then tw ls pre ++ [k] else tw ls pre := by
  unfold tw
  rw [List.filter_append]
  by_cases h : 1 < (idxOf k ls).length <;> simp [h]
theorem FdIs.keyIn {w : World} {b : Nat} {f : FS} (h : FdIs w b f) (k : HK) : k ∈ f.mp.map (·.1) ↔ k ∈ f.ls := by
  constructor
  · intro hk
    obtain ⟨⟨k', v⟩, hm, rfl⟩ := List.mem_map.1 hk
    exact (h.val k' v hm).2
  · intro hk
    obtain ⟨v, hv⟩ := Option.isSome_iff_exists.1 (h.has k hk)
    exact List.mem_map.2 ⟨(k, v), mget_mem hv, rfl⟩
theorem FdIs.keysN {w : World} {b : Nat} {f : FS} (h : FdIs w b f) : (f.mp.map (·.1)).Nodup := h.map.keys
theorem nodup_len {w : World} {b : Nat} {f : FS} (h : FdIs w b f) : f.mp.length ≤ f.ls.length := by
  have := h.keysN.length_le_of_subset (fun k hk => (h.keyIn k).1 hk)
  simpa using this
def TwP (w : World) (f : FS) (e : Ending) (w' : World) : Prop := ∃ v, e = .returned v ∧ HOwn w' w.heap.size v ((twiceL f.ls).map (·.1)) ∧ Chg [] w w'
/-- The sort of what was collected. -/
theorem sortF_calls (w w1 : World) (b : Nat) (f : FS) (h : FdIs w b f) (hl : f.ls.length ≤ 100000) (hC : Chg [] w w1) (B : Nat) (hB : w1.heap[B]? = some (.cells #[.pointer (some ⟨b, 0, none⟩)] 45 (0, 0))) (base : Nat) (hbase : w.heap.size ≤ base) (hBb : B < base)
    (v : Value) (coll : List HK) (hcoll : coll = tw f.ls (f.mp.map (·.1)) ∨ ∃ pre, pre.Perm (f.mp.map (·.1)) ∧ coll = tw f.ls pre) (hO : HOwn w1 base v (coll.map (·.1))) (hnil : f.ls = [] → v = .slice none 0 0) :
    Calls Tryz.prog 176 #[v, .func (.func 177) #[] #[.pointer (some ⟨B, 0, none⟩)]] w1 fun e w' => e = .returned (.tuple #[]) ∧ HOwn w' base v ((twiceL f.ls).map (·.1)) ∧ Chg (ob v) w1 w' := by
  have hcoll : ∃ pre, pre.Perm (f.mp.map (·.1)) ∧ coll = tw f.ls pre := by
    rcases hcoll with e | e
    · exact ⟨_, List.Perm.refl _, e⟩
    · exact e
  obtain ⟨pre, hp, rfl⟩ := hcoll
  have hin : ∀ k, k ∈ tw f.ls pre ↔ k ∈ f.ls ∧ 1 < (idxOf k f.ls).length := by
    intro k
    unfold tw
    rw [List.mem_filter, hp.mem_iff, h.keyIn]
    simp
  have hnd : (tw f.ls pre).Nodup := (hp.nodup_iff.2 h.keysN).filter _
  obtain ⟨L, hL⟩ := lift_list (p := fun k => k ∈ f.ls ∨ f.ls = []) (tw f.ls pre) (fun k hk => .inl ((hin k).1 hk).1)
  haveI : Inhabited {k : HK // k ∈ f.ls ∨ f.ls = []} := ⟨by
    by_cases he : f.ls = []
    · exact ⟨⟨zeroHash, zeroHash_is⟩, .inr he⟩
    · exact ⟨f.ls.head he, .inl (List.head_mem he)⟩⟩
  have hfl : ∀ M : List {k : HK // k ∈ f.ls ∨ f.ls = []}, M.flatMap (encF f.ls) = ((M.map (·.1)).map (·.1)).flatMap (·.toList) := by
    intro M
    simp only [List.flatMap_map]
    rfl
  have hown : w1.ownsRow base 36 32 v L.length (L.flatMap (encF f.ls)) := by
    have := hO.1
    rw [← hL] at this
    rw [hfl]
    simpa using this
  have eg : ∀ args w, (callFunc 177 args).run Tryz.prog w = .ok (.enter 177 args) w := enters_of Tryz.func177 (by kernel_rfl) rfl
  have hlen : L.length ≤ 100000 := by
    have e := congrArg List.length hL
    simp only [List.length_map] at e
    have h1 : (tw f.ls pre).length ≤ pre.length := List.length_filter_le _ _
    have h2 := hp.length_eq
    rw [List.length_map] at h2
    have h3 := nodup_len h
    omega
  have hlt := h.lt
  have hbl := blk_lt hB
  have hS := sort_calls Tryz.sortH 32 isAgg_HashS sizeOf_HashS (encF f.ls) (fun x => x.1.2.1) (fun x u hu => by obtain ⟨n, rfl, _⟩ := x.1.2.2 u hu; rfl) (cfF f.ls) (swoF f.ls) 177 #[.pointer (some ⟨B, 0, none⟩)] eg w1 base 36 v L hown (by omega) (fun blk hblk => by
    intro m os dk hdk x y
    have hge : base ≤ blk := (own_lt hown blk (by rw [hblk]; simp)).1
    have hne : f.ls ≠ [] := fun e => by rw [hnil e] at hblk; simp [ob_nil] at hblk
    have hcw : Chg [blk] w1 (sortWorldK (encF f.ls) 32 w1 blk 0 m dk os) := srt_chg dk
    have hF : FdIs (sortWorldK (encF f.ls) 32 w1 blk 0 m dk os) b f := (h.chg0 hC).chg hcw (fun z hz => by have := hlt z hz; simp; omega)
    have hBc := hcw.at hB (by simp; omega)
    exact tw1_calls _ B b f (blk_cell hBc 0 rfl) hF hl x.1 y.1 (x.2.resolve_right hne) (y.2.resolve_right hne))
  have hS2 : Calls Tryz.prog 176 _ _ _ := hS
  refine hS2.mono ?_
  rintro e w' ⟨rfl, l', hp', hs', hown', hc'⟩
  have hmem : ∀ k, k ∈ l'.map (·.1) ↔ k ∈ f.ls ∧ 1 < (idxOf k f.ls).length := fun k => by
    rw [← hin k, ← hL]
    exact (hp'.map (·.1)).mem_iff
  have hnd' : (l'.map (·.1)).Nodup := by
    rw [(hp'.map (·.1)).nodup_iff, hL]
    exact hnd
  have hup : (l'.map (·.1)).Pairwise (fun a b => fstN a f.ls ≤ fstN b f.ls) := by
    rw [List.pairwise_map, List.pairwise_iff_getElem]
    intro i j hi hj hij
    have := hs' i j hij hj
    unfold cfF at this
    rw [cmpN_neg] at this
    omega
  have hfin := twice_unique hnd' hmem hup
  refine ⟨rfl, ⟨?_, fun y hy => ?_⟩, hc'⟩
  · rw [← hfin, ← hfl]
    have e := hp'.length_eq
    rw [← e] at hown'
    simpa using hown'
  · obtain ⟨k, _, rfl⟩ := List.mem_map.1 hy
    exact k.2
def RgI (w1 wx : World) (b r : Nat) (f : FS) (v : Value) (g : Nat) : Prop := ∃ pre, RngIs encH wx f.m r f.mp pre g ∧ HOwn wx w1.heap.size v ((tw f.ls pre).map (·.1)) ∧ Chg [r] w1 wx ∧ (f.ls = [] → v = .slice none 0 0)
set_option maxRecDepth 100000 in
set_option maxHeartbeats 4000000 in
theorem dTwice_calls (w : World) (b : Nat) (f : FS) (h : FdIs w b f) (hl : f.ls.length ≤ 100000) : Calls Tryz.prog 114 #[.pointer (some ⟨b, 0, none⟩)] w (TwP w f) := by
  obtain ⟨w0, rfl⟩ : ∃ w0 : World, w0 = w := ⟨_, rfl⟩
  have hA : Chg [] w0 (w0.alloc (.cells #[.pointer (some ⟨b, 0, none⟩)] 45)) := (Chg.refl _ _).alloc _
  have h1 := h.chg0 hA
  have hBx := blk_new w0 (.cells #[.pointer (some ⟨b, 0, none⟩)] 45)
  have cB := blk_cell hBx 0 rfl
  have c1 := blk_cell h1.mem 1 rfl
  have hLn : w0.heap.size < (w0.alloc (.cells #[.pointer (some ⟨b, 0, none⟩)] 45)).heap.size := by simp
  have hbl := blk_lt h1.mem
  have hm := h1.map
  have hlt := h1.lt
  have H := Lib.hid h
  have H1 := Lib.hid h1
  have HA := Lib.hid hA
  have HBx := Lib.hid hBx
  clear h h1 hA hBx
  go_enter Tryz.func114, Tryz.ntmps114
  go_wp2_with (at_range; refine wp_mrange _ rfl _ rfl u_maph rfl hm ?_; intro w1 hrg0 hc0 hs0)
  go_frame
  rw [World.size_alloc] at hs0
  have hr0 : (w0.alloc (.cells #[.pointer (some ⟨b, 0, none⟩)] 45)).heap.size = w0.heap.size + 1 := World.size_alloc _ _
  rw [hr0] at hrg0 ⊢
  have hz : w1.heap.size = w0.heap.size + 2 := by omega
  have HF1 := Lib.hid (H1.out.chg0 hc0)
  have HB1 := Lib.hid (hc0.at HBx.out (by simp))
  have HC1 := Lib.hid (HA.out.nil_trans hc0)
  have h00 : RgI w1 w1 b (w0.heap.size + 1) f (.slice none 0 0) f.mp.length := ⟨[], hrg0, HOwn.nil _ _, Chg.refl _ _, fun _ => rfl⟩
  clear hrg0 hc0 cB c1
  go_loopg [3] f.mp.length (fun g l wx => ∃ v, l = v ∧ RgI w1 wx b (w0.heap.size + 1) f v g)
  case atStart => exact ⟨_, rfl, h00⟩
  case round =>
    clear h00
    obtain ⟨v, rfl, pre, hrg, hO, hC, hnil⟩ := hrel
    have hCw : Chg [] w0 wr := HC1.out.trans hC (fun x hx => .inr (by simp at hx; omega))
    have hBr := hC.at HB1.out (by simp)
    have hFr : FdIs wr b f := H.out.chg0 hCw
    have hol := own_lt hO.1
    have hszr : w0.heap.size + 2 ≤ wr.heap.size := by have := hC.size; omega
    go_wp2_with (at_next; refine wp_mnext _ rfl _ rfl encH_law rfl hrg ?_ ?_)
    · intro hc0 hp
      have hS := sortF_calls w0 wr b f H.out hl hCw w0.heap.size hBr w1.heap.size (by omega) (by omega) u3 (tw f.ls pre) (.inr ⟨pre, hp, rfl⟩) hO hnil
      have HS := Lib.hid hS
      clear hS hrg hO hnil hBr hFr hm
      go_wp2_with (go_at_call 176; refine HS.out.mono ?_; rintro e w4 ⟨rfl, hO4, hc4⟩)
      go_ret
      exact ⟨_, rfl, ⟨own_mono hO4.1 (by omega), hO4.2⟩, hCw.trans hc4 (fun x hx => .inr (by have := (hol x hx).1; omega))⟩
    · intro k v2 w2 hkv hkp hrg2 hpos hc2 hs2 hen
      obtain ⟨hU, hkin⟩ := hFr.val k v2 hkv
      obtain ⟨a2, cap2, rfl⟩ := hU.shapeU
      have hil := idxOf_length k f.ls
      have hne : f.ls = [] → False := fun e => by rw [e] at hkin; simp at hkin
      have hr2 : w0.heap.size + 1 ∉ ob u3 := fun hx => by have := (hol _ hx).1; omega
      have hA3 : Chg [] w2 (w2.alloc (.cells k.1 36)) := (Chg.refl _ _).alloc _
      have hO3 : HOwn (w2.alloc (.cells k.1 36)) w1.heap.size u3 ((tw f.ls pre).map (·.1)) := (hO.chg hc2 (fun x hx hx2 => by simp at hx2; subst hx2; exact hr2 hx)).chg hA3 (by simp)
      have hC3 : Chg [w0.heap.size + 1] w1 (w2.alloc (.cells k.1 36)) := (hC.trans hc2 (fun x hx => .inl hx)).nil_trans hA3
      have hrg3 := hrg2.chg hA3 (by simp) (by simp)
      have htw := tw_snoc f.ls pre k
      have hk1 := k.2.1
      have hk2 := k.2.one
      have hmL : f.m < w1.heap.size := by have := H.out.map.lt; omega
      unfold encH at hen
      by_cases hgt : 1 < (idxOf k f.ls).length
      · rw [if_pos hgt] at htw
        have htl : ((tw f.ls pre).map (·.1)).length ≤ 4294967296 := by
          have q1 : (tw f.ls pre).length ≤ pre.length := List.length_filter_le _ _
          obtain ⟨rest, q2⟩ := hrg.rest
          have q3 := q2.length_eq
          have q4 := nodup_len hFr
          simp only [List.length_append, List.length_map] at q3 ⊢
          omega
        obtain ⟨v4, w4, hrun, hO4, hc4, hb4⟩ := hO3.push k.1 k.2 htl (by have := hC3.size; omega) 39
        rw [World.size_alloc] at hrun
        have hnext : RgI w1 w4 b (w0.heap.size + 1) f v4 (gk - 1) := by
          refine ⟨pre ++ [k], hrg3.chg hc4 (fun hx => by have := (hol _ hx).1; omega) hr2, ?_, hC3.trans hc4 (fun x hx => .inr (hol x hx).1), fun e => (hne e).elim⟩
          rw [htw, List.map_append]
          exact hO4
        have HN := Lib.hid hnext
        have hgtI : decide ((1 : Int) < ((idxOf k f.ls).length : Int)) = true := by simp; omega
        clear hnext hO4 hc4 hb4 hO3 hC3 hrg3 hrg hrg2 hO hC hCw hBr hFr hU htw hm hnil hkv hA3 hs2 hc2 htl
        generalize (idxOf k f.ls).length = n at *
        generalize k.1 = x at *
        go_wp2_with (at_builtin; refine Lib.wpList_append_run _ rfl _ _ _ _ rfl _ _ rfl rfl _ _ hrun ?_)
        go_roundg (gk - 1)
        case measure => omega
        case rel => exact ⟨_, rfl, HN.out⟩
      · rw [if_neg hgt] at htw
        have hnext : RgI w1 (w2.alloc (.cells k.1 36)) b (w0.heap.size + 1) f u3 (gk - 1) := by
          refine ⟨pre ++ [k], hrg3, ?_, hC3, fun e => (hne e).elim⟩
          rw [htw]
          exact hO3
        have HN := Lib.hid hnext
        have hgtI : decide ((1 : Int) < ((idxOf k f.ls).length : Int)) = false := by simp; omega
        clear hnext hO3 hC3 hrg3 hrg hrg2 hO hC hCw hBr hFr hU htw hm hnil hkv hA3 hs2 hc2
        generalize (idxOf k f.ls).length = n at *
        generalize k.1 = x at *
        go_wp2
        go_roundg (gk - 1)
        case measure => omega
        case rel => exact ⟨_, rfl, HN.out⟩
end Go.Proofs.YtpklkefnmoaaaaaGreatDoor

/- A find of one's own, as the statements use it; 'awake' walked; how many unlike hashes there are. -/
namespace Go.Proofs.YtpklkefnmoaaaaaGreatDoor
open Go.RowKit
set_option linter.unusedVariables false
set_option linter.unusedSimpArgs false

/-- A find that, since w0, has changed only what was its own (F0), or is new. -/
structure FdOf (F0 : List Nat) (w0 w : World) (b : Nat) (f : FS) : Prop where
  is : FdIs w b f
  chg : Chg F0 w0 w
  foot : ∀ x ∈ f.foot b, x ∈ F0 ∨ w0.heap.size ≤ x
theorem FdOf.here {w : World} {b : Nat} {f : FS} (h : FdIs w b f) : FdOf (f.foot b) w w b f := ⟨h, Chg.refl _ _, fun x hx => .inl hx⟩
theorem FdOf.comp {F0 F1 : List Nat} {w0 w1 w : World} {b : Nat} {f f1 : FS} (h : FdOf F0 w0 w1 b f1) (k : FdOf F1 w1 w b f) (hF : ∀ x ∈ F1, x ∈ F0 ∨ w0.heap.size ≤ x) : FdOf F0 w0 w b f :=
  ⟨k.is, h.chg.trans k.chg hF, fun x hx => (k.foot x hx).elim (hF x) (fun q => .inr (by have := h.chg.size; omega))⟩
theorem FdOf.chg0 {F0 : List Nat} {w0 w w' : World} {b : Nat} {f : FS} (h : FdOf F0 w0 w b f) (hc : Chg [] w w') : FdOf F0 w0 w' b f := ⟨h.is.chg0 hc, h.chg.nil_trans hc, h.foot⟩
def NewF (w : World) (e : Ending) (w' : World) : Prop := ∃ b f, e = .returned (.pointer (some ⟨b, 0, none⟩)) ∧ FdOf [] w w' b f ∧ f.ls = []
theorem new_of (w : World) : Calls Tryz.prog 19 #[] w (NewF w) := by
  have hmm := @run_makeMap Tryz.prog
  go_enter Tryz.func19, Tryz.ntmps19
  go_wp2
  go_ret
  have e1 := blk_new (w.alloc (.map #[] 0)) (.cells #[.slice none 0 0, .map (some w.heap.size)] 146)
  rw [World.size_alloc] at e1
  have hc : Chg [] (w.alloc (.map #[] 0)) ((w.alloc (.map #[] 0)).alloc (.cells #[.slice none 0 0, .map (some w.heap.size)] 146)) := (Chg.refl _ _).alloc _
  refine ⟨_, ⟨.slice none 0 0, w.heap.size, [], []⟩, rfl, ⟨⟨e1, HOwn.nil _ _, (MapIs.new encH w).chg hc (by simp), by simp, by simp, by simp, by simp [ob_nil], by simp [ob_nil], by simp, by simp⟩, ((Chg.refl [] w).alloc _).nil_trans hc, ?_⟩, rfl⟩
  intro x hx
  simp [FS.foot, ob_nil] at hx
  omega
def AddF (F0 : List Nat) (w0 : World) (b : Nat) (f : FS) (k : HK) (e : Ending) (w' : World) : Prop := e = .returned (.int .u64 (f.ls.length : Nat)) ∧ ∃ f', FdOf F0 w0 w' b f' ∧ f'.ls = f.ls ++ [k]
theorem FdOf.add {F0 : List Nat} {w0 w : World} {b : Nat} {f : FS} (h : FdOf F0 w0 w b f) (hl : f.ls.length ≤ 100000) (k : HK) : Calls Tryz.prog 22 #[.pointer (some ⟨b, 0, none⟩), .agg k.1] w (AddF F0 w0 b f k) := by
  refine (dAdd_calls w b f h.is hl k).mono ?_
  rintro e w' ⟨f', rfl, h1, h2, h3, h4⟩
  exact ⟨rfl, f', ⟨h1, h.chg.trans h3 h.foot, fun x hx => by
    rcases h4 x hx with q | q
    · exact h.foot x q
    · have := h.chg.size; exact .inr (by omega)⟩, h2⟩
def CutF (F0 : List Nat) (w0 : World) (b : Nat) (f : FS) (n : Nat) (e : Ending) (w' : World) : Prop := e = .returned (.int .i64 0) ∧ ∃ f', FdOf F0 w0 w' b f' ∧ f'.ls = f.ls.take n
def frst (ls : List HK) (i : Nat) : Bool := match ls[i]? with
  | some k => decide (fstN k ls = i)
  | none => false
def kinds (ls : List HK) (n : Nat) : Nat := (List.range n).countP (frst ls)
theorem kinds_succ (ls : List HK) (n : Nat) : kinds ls (n + 1) = if frst ls n then kinds ls n + 1 else kinds ls n := by
  unfold kinds
  rw [List.range_succ, List.countP_append]
  by_cases h : frst ls n <;> simp [h]
def uniL (ls : List HK) : List HK := (List.range ls.length).filterMap fun i => if frst ls i then ls[i]? else none
theorem frst_some {ls : List HK} {i : Nat} (h : frst ls i = true) : ∃ k, ls[i]? = some k ∧ fstN k ls = i := by
  unfold frst at h
  split at h
  · rename_i k hk
    exact ⟨k, hk, by simpa using h⟩
  · cases h
theorem FdIs.unlike {w : World} {b : Nat} {f : FS} (h : FdIs w b f) : f.mp.length = kinds f.ls f.ls.length := by
  have hmem : ∀ k, k ∈ uniL f.ls ↔ k ∈ f.ls := by
    intro k
    unfold uniL
    rw [List.mem_filterMap]
    constructor
    · rintro ⟨i, _, hi⟩
      split at hi
      · exact List.mem_iff_getElem?.2 ⟨i, hi⟩
      · cases hi
    · intro hk
      obtain ⟨a, c⟩ := fstN_at hk
      refine ⟨fstN k f.ls, by simpa using c, ?_⟩
      rw [if_pos (by unfold frst; rw [a]; simp), a]
  have hnd : (uniL f.ls).Nodup := by
    have : (uniL f.ls).Pairwise (fun a b => fstN a f.ls < fstN b f.ls) := by
      unfold uniL
      rw [List.pairwise_filterMap]
      refine List.Pairwise.imp ?_ (List.pairwise_lt_range)
      intro i j hij x hx y hy
      split at hx
      · rename_i h1
        split at hy
        · rename_i h2
          obtain ⟨k1, e1, q1⟩ := frst_some h1
          obtain ⟨k2, e2, q2⟩ := frst_some h2
          rw [e1] at hx
          rw [e2] at hy
          injection hx with hx
          injection hy with hy
          rw [← hx, ← hy, q1, q2]
          exact hij
        · cases hy
      · cases hx
    exact this.imp (fun h e => by subst e; omega)
  have hp : (f.mp.map (·.1)).Perm (uniL f.ls) := by
    rw [List.perm_ext_iff_of_nodup h.keysN hnd]
    intro k
    rw [h.keyIn, hmem]
  have e := hp.length_eq
  rw [List.length_map] at e
  rw [e]
  unfold uniL kinds
  rw [List.length_filterMap_eq_countP]
  apply List.countP_congr
  intro i hi
  by_cases hf : frst f.ls i = true
  · obtain ⟨k, e1, _⟩ := frst_some hf
    simp [hf, e1]
  · simp [hf]
theorem UOwn.nis {w : World} {B : Nat} {v : Value} {l : List Nat} (h : UOwn w B v l) : ∃ a cap, v = .slice a l.length cap ∧ (l = [] ∨ ∃ g, a = some ⟨g, 0, none⟩ ∧ g < w.heap.size ∧ B ≤ g ∧ ∀ i (hi : i < l.length), w.cell? ⟨g, i, none⟩ = some (.int .u64 (l[i] : Nat))) := by
  obtain ⟨a, cap, rfl⟩ := h.shapeU
  refine ⟨a, cap, rfl, ?_⟩
  by_cases hl : l = []
  · exact .inl hl
  · have h0 : 0 < l.length := List.length_pos_iff.2 hl
    obtain ⟨_, g, rfl, hg, _⟩ := h.cellU h0
    refine .inr ⟨g, rfl, hg, (own_lt h g (by simp [ob_some])).1, fun i hi => ?_⟩
    obtain ⟨_, g', hgg, _, hc⟩ := h.cellU hi
    injection hgg with hgg
    injection hgg with hgg
    subst hgg
    exact hc
/-- A find with these hashes. -/
def FdL (F0 : List Nat) (w0 w : World) (b : Nat) (ls : List HK) : Prop := ∃ f, FdOf F0 w0 w b f ∧ f.ls = ls
theorem FdL.chg0 {F0 : List Nat} {w0 w w' : World} {b : Nat} {ls : List HK} (h : FdL F0 w0 w b ls) (hc : Chg [] w w') : FdL F0 w0 w' b ls := by
  obtain ⟨f, h1, h2⟩ := h
  exact ⟨f, h1.chg0 hc, h2⟩
theorem FdL.chg {F0 F : List Nat} {w0 w w' : World} {b : Nat} {ls : List HK} (h : FdL F0 w0 w b ls) (hc : Chg F w w') (hF : ∀ x ∈ F, w.heap.size ≤ x ∨ (x ∉ F0 ∧ x < w0.heap.size)) (hF0 : ∀ x ∈ F, x < w.heap.size → x ∈ F0) : FdL F0 w0 w' b ls := by
  obtain ⟨f, h1, h2⟩ := h
  have hlt := h1.is.lt
  refine ⟨f, ⟨h1.is.chg hc (fun x hx hxF => ?_), h1.chg.trans hc (fun x hx => ?_), h1.foot⟩, h2⟩
  · rcases hF x hxF with q | ⟨q1, q2⟩
    · have := hlt x hx; omega
    · rcases h1.foot x hx with r | r
      · exact q1 r
      · omega
  · rcases hF x hx with q | ⟨q1, q2⟩
    · exact .inr (by have := h1.chg.size; omega)
    · exact absurd (hF0 x hx (by have := h1.chg.size; omega)) q1
theorem FdL.out {F0 : List Nat} {w0 w : World} {b : Nat} {ls : List HK} (h : FdL F0 w0 w b ls) : Chg F0 w0 w := by obtain ⟨f, h1, _⟩ := h; exact h1.chg
/-- It is looked at from here. -/
theorem FdL.here {F0 : List Nat} {w0 w : World} {b : Nat} {ls : List HK} (h : FdL F0 w0 w b ls) : ∃ F1, FdL F1 w w b ls ∧ (∀ x ∈ F1, x ∈ F0 ∨ w0.heap.size ≤ x) ∧ (∀ x ∈ F1, x < w.heap.size) := by
  obtain ⟨f, h1, h2⟩ := h
  exact ⟨f.foot b, ⟨f, FdOf.here h1.is, h2⟩, h1.foot, h1.is.lt⟩
theorem FdL.hereAt {F0 : List Nat} {w0 w w' : World} {b : Nat} {ls : List HK} (h : FdL F0 w0 w b ls) (hc : Chg [] w w') : ∃ F1, FdL F1 w' w' b ls ∧ (∀ x ∈ F1, x ∈ F0 ∨ w0.heap.size ≤ x) ∧ (∀ x ∈ F1, x < w.heap.size) := by
  obtain ⟨f, h1, h2⟩ := h
  exact ⟨f.foot b, ⟨f, FdOf.here (h1.is.chg0 hc), h2⟩, h1.foot, h1.is.lt⟩
theorem FdL.comp {F0 F1 : List Nat} {w0 w1 w : World} {b : Nat} {ls ls1 : List HK} (h : FdL F0 w0 w1 b ls1) (k : FdL F1 w1 w b ls) (hF : ∀ x ∈ F1, x ∈ F0 ∨ w0.heap.size ≤ x) : FdL F0 w0 w b ls := by
  obtain ⟨f, h1, h2⟩ := h
  obtain ⟨f', k1, k2⟩ := k
  exact ⟨f', h1.comp k1 hF, k2⟩
def NewL (w : World) (e : Ending) (w' : World) : Prop := ∃ b, e = .returned (.pointer (some ⟨b, 0, none⟩)) ∧ FdL [] w w' b []
theorem newL (w : World) : Calls Tryz.prog 19 #[] w (NewL w) := (new_of w).mono fun _ _ ⟨b, f, he, h1, h2⟩ => ⟨b, he, f, h1, h2⟩
section
variable {F0 : List Nat} {w0 w : World} {b : Nat} {ls : List HK}
def AddL (F0 : List Nat) (w0 : World) (b : Nat) (ls : List HK) (k : HK) (e : Ending) (w' : World) : Prop := e = .returned (.int .u64 (ls.length : Nat)) ∧ FdL F0 w0 w' b (ls ++ [k])
theorem FdL.add (h : FdL F0 w0 w b ls) (hl : ls.length ≤ 100000) (k : HK) : Calls Tryz.prog 22 #[.pointer (some ⟨b, 0, none⟩), .agg k.1] w (AddL F0 w0 b ls k) := by
  obtain ⟨f, h1, rfl⟩ := h
  exact (h1.add hl k).mono fun _ _ ⟨he, f', q1, q2⟩ => ⟨he, f', q1, q2⟩
def CutL (F0 : List Nat) (w0 : World) (b : Nat) (ls : List HK) (n : Nat) (e : Ending) (w' : World) : Prop := e = .returned (.int .i64 0) ∧ FdL F0 w0 w' b (ls.take n)
theorem FdL.at (h : FdL F0 w0 w b ls) (hl : ls.length ≤ 100000) (k : HK) : Calls Tryz.prog 113 #[.pointer (some ⟨b, 0, none⟩), .agg k.1] w (CloneUP w (idxOf k ls)) := by
  obtain ⟨f, h1, rfl⟩ := h
  exact dAt_calls w b f h1.is hl k
def lfH (ls : List HK) (i : Nat) : Array Value := ((ls[i]?).map (·.1)).getD zeroHash
def lfE (ls : List HK) (i : Nat) : Int := if i < ls.length then 0 else 32
theorem lfH_is (ls : List HK) (i : Nat) : IsHash (lfH ls i) := by
  unfold lfH
  cases ls[i]? with
  | none => exact zeroHash_is
  | some k => exact k.2
theorem FdL.size (h : FdL F0 w0 w b ls) (hl : ls.length ≤ 100000) : Calls Tryz.prog 106 #[.pointer (some ⟨b, 0, none⟩)] w fun e w' => e = .returned (.int .u64 (ls.length : Nat)) ∧ w' = w := by
  obtain ⟨f, h1, rfl⟩ := h
  exact dSize_calls w b f h1.is (by omega)
theorem FdL.unlike (h : FdL F0 w0 w b ls) : Calls Tryz.prog 115 #[.pointer (some ⟨b, 0, none⟩)] w fun e w' => e = .returned (.int .i64 (kinds ls ls.length : Nat)) ∧ w' = w := by
  obtain ⟨f, h1, rfl⟩ := h
  have := dUnlike_calls w b f h1.is
  rw [h1.is.unlike] at this
  exact this
def TwL (w : World) (ls : List HK) (e : Ending) (w' : World) : Prop := ∃ v, e = .returned v ∧ HOwn w' w.heap.size v ((twiceL ls).map (·.1)) ∧ Chg [] w w'
theorem FdL.twice (h : FdL F0 w0 w b ls) (hl : ls.length ≤ 100000) : Calls Tryz.prog 114 #[.pointer (some ⟨b, 0, none⟩)] w (TwL w ls) := by
  obtain ⟨f, h1, rfl⟩ := h
  exact dTwice_calls w b f h1.is hl
end
end Go.Proofs.YtpklkefnmoaaaaaGreatDoor

/- 'awake' of the finds' statements walked. -/
namespace Go.Proofs.YtpklkefnmoaaaaaGreatDoor
open Go.RowKit
set_option linter.unusedVariables false
set_option linter.unusedSimpArgs false

theorem HOwn.rows {w : World} {B : Nat} {v : Value} {l : List (Array Value)} (h : HOwn w B v l) : ∃ a cap, v = .slice a l.length cap ∧ (l = [] ∨ ∃ g, a = some ⟨g, 0, none⟩ ∧ g < w.heap.size ∧ B ≤ g ∧ ∀ i (hi : i < l.length), rng? w g (i * 32) 32 = some l[i]) := by
  obtain ⟨hI, a, cap, rfl, hr⟩ := h.hs
  refine ⟨a, cap, rfl, ?_⟩
  rcases hr with q | ⟨g, o, rfl, hg, hr⟩
  · exact .inl q
  · have h1 := h.1.2
    rcases h1 with ⟨hv, h0⟩ | ⟨g', cap', cur, hv, hb, _⟩
    · cases hv
    · injection hv with e1
      injection e1 with e1
      injection e1 with e1 e2
      subst e1 e2
      exact .inr ⟨g, rfl, hg, hb, fun i hi => by have := hr i hi; rwa [Nat.zero_add] at this⟩
theorem idx3 {x y : HK} (h : x ≠ y) : idxOf x [x, y, x] = [0, 2] ∧ idxOf y [x, y, x] = [1] := by
  have h2 : y ≠ x := fun e => h e.symm
  constructor
  · simp [idxOf, List.range, List.range.loop, h2]
  · simp [idxOf, List.range, List.range.loop, h]
theorem twice3 {x y : HK} (h : x ≠ y) : twiceL [x, y, x] = [x] := by
  symm
  refine twice_unique (by simp) (fun k => ?_) (by simp)
  constructor
  · intro hk
    simp at hk
    subst hk
    rw [(idx3 h).1]
    simp
  · rintro ⟨h1, h2⟩
    by_cases e : k = x
    · simp [e]
    · have : k = y := by simpa [e] using h1
      subst this
      rw [(idx3 h).2] at h2
      simp at h2
theorem kinds3 {x y : HK} (h : x ≠ y) : kinds [x, y, x] 3 = 2 := by
  have e0 : frst [x, y, x] 0 = true := by simp [frst, fstN, (idx3 h).1]
  have e1 : frst [x, y, x] 1 = true := by simp [frst, fstN, (idx3 h).2]
  have e2 : frst [x, y, x] 2 = false := by simp [frst, fstN, (idx3 h).1]
  rw [kinds_succ, kinds_succ, kinds_succ, e0, e1, e2]
  rfl
set_option maxRecDepth 100000 in
set_option maxHeartbeats 4000000 in
theorem awakeF_calls (w : World) : Calls Tryz.prog 29 #[] w (Res w [] (.bool true)) := by
  have h1 := hash1_is (n := 1) (by omega) (by omega)
  have h2 := hash1_is (n := 2) (by omega) (by omega)
  have hb1 := bd_Hash1 1
  have hb2 := bd_Hash1 2
  have hne : hash1 1 ≠ hash1 2 := by
    intro e
    have := congrArg (fun a => a[0]?) e
    simp [hash1, zeroHash] at this
  generalize hash1 1 = x at *
  generalize hash1 2 = y at *
  have hk : (⟨x, h1⟩ : HK) ≠ ⟨y, h2⟩ := fun e => hne (congrArg (·.1) e)
  obtain ⟨kx, hkx⟩ : ∃ kx : HK, kx.1 = x := ⟨⟨x, h1⟩, rfl⟩
  obtain ⟨ky, hky⟩ : ∃ ky : HK, ky.1 = y := ⟨⟨y, h2⟩, rfl⟩
  have hk : kx ≠ ky := fun e => hne (by rw [← hkx, ← hky, e])
  subst hkx hky
  have sx := h1.1
  have sy := h2.1
  have ox := h1.one
  have oy := h2.one
  have ee : eqH kx.1 kx.1 = true := eqH_self
  obtain ⟨w0, rfl⟩ : ∃ w0 : World, w0 = w := ⟨_, rfl⟩
  go_enter Tryz.func29, Tryz.ntmps29
  go_wp2_with (go_at_call 19; refine (newL _).mono ?_; rintro e w1 ⟨b, rfl, hF⟩)
  have hA0 : Chg [] w1 ((w1.alloc (.cells zeroHash 36)).alloc (.cells zeroHash 36)) := ((Chg.refl _ _).alloc _).alloc _
  have hA : Chg [] w1 (setRng (setRng ((w1.alloc (.cells zeroHash 36)).alloc (.cells zeroHash 36)) w1.heap.size 0 kx.1) (w1.heap.size + 1) 0 ky.1) := (hA0.setRng (.inr (Nat.le_refl _)) _ _).setRng (.inr (by omega)) _ _
  obtain ⟨F1, hF1, hFo, hFl⟩ := hF.hereAt hA
  have hc : Chg [] w0 w1 := hF.out
  have b2 := ((Chg.refl [] (w1.alloc (.cells zeroHash 36))).alloc (.cells zeroHash 36)).at (blk_new w1 (.cells zeroHash 36)) (by simp)
  have b3 := blk_new (w1.alloc (.cells zeroHash 36)) (.cells zeroHash 36)
  rw [World.size_alloc] at b3
  have m2 := may_row (o := 0) (n := 32) b2 (by rw [zeroHash_size]; omega)
  have m3 := may_row (o := 0) (n := 32) b3 (by rw [zeroHash_size]; omega)
  have r2 := (rng?_setRng_other (setRng ((w1.alloc (.cells zeroHash 36)).alloc (.cells zeroHash 36)) w1.heap.size 0 kx.1) (w1.heap.size + 1) 0 ky.1 w1.heap.size 0 32 (by omega)).trans (rng?_setRng_same _ _ _ _ _ m2 sx)
  have r3 := rng?_setRng_same _ _ _ _ _ (may_setRng _ _ _ _ w1.heap.size 0 kx.1 m3) sy
  have hz : (setRng (setRng ((w1.alloc (.cells zeroHash 36)).alloc (.cells zeroHash 36)) w1.heap.size 0 kx.1) (w1.heap.size + 1) 0 ky.1).heap.size = w1.heap.size + 2 := by simp
  have hn2 : w1.heap.size ∉ F1 := fun h => by have := hFl _ h; omega
  have hn3 : w1.heap.size + 1 ∉ F1 := fun h => by have := hFl _ h; omega
  have hcW := hc.nil_trans hA
  have hF1o : ∀ x ∈ F1, w0.heap.size ≤ x := fun x hx => by rcases hFo x hx with q | q; simp at q; exact q
  obtain ⟨W1, hW1⟩ : ∃ W1, (setRng (setRng ((w1.alloc (.cells zeroHash 36)).alloc (.cells zeroHash 36)) w1.heap.size 0 kx.1) (w1.heap.size + 1) 0 ky.1) = W1 := ⟨_, rfl⟩
  rw [hW1] at r2 r3 hz hF1 hcW
  have HW1 := Lib.hid hW1
  clear hW1 hF hA hFo hFl hc hA0 b2 b3 m2 m3
  have rr : ∀ W, Chg F1 W1 W → rng? W w1.heap.size 0 32 = some kx.1 ∧ rng? W (w1.heap.size + 1) 0 32 = some ky.1 ∧ w1.heap.size < W.heap.size ∧ w1.heap.size + 1 < W.heap.size := fun W h => ⟨rng?_chg h r2 (by omega) hn2, rng?_chg h r3 (by omega) hn3, by have := h.size; omega, by have := h.size; omega⟩
  have HRR := Lib.hid rr
  have HF1 := Lib.hid hF1
  clear rr hF1
  go_upto_region 5 with (fail)
  rw [HW1.out]
  go_wp2_with fail
  go_at_call 22
  refine (HF1.out.add (by simp) kx).mono ?_
  rintro e w2 ⟨rfl, h2⟩
  obtain ⟨p2, p3, p4, p5⟩ := HRR.out _ h2.out
  have H2 := Lib.hid h2
  clear h2 r2 r3
  go_wp2_with fail
  go_at_call 22
  refine (H2.out.add (by simp) ky).mono ?_
  rintro e w3 ⟨rfl, h3⟩
  obtain ⟨p2, p3, p4, p5⟩ := HRR.out _ h3.out
  have H3 := Lib.hid h3
  clear h3 H2
  go_wp2_with fail
  go_at_call 22
  refine (H3.out.add (by simp) kx).mono ?_
  rintro e w4 ⟨rfl, h4⟩
  obtain ⟨p2, p3, p4, p5⟩ := HRR.out _ h4.out
  have H4 := Lib.hid h4
  clear h4 H3
  go_wp2_with fail
  go_at_call 113
  refine (H4.out.at (by simp) kx).mono ?_
  rintro e w5 ⟨va, rfl, hU, hc5⟩
  have H5 := Lib.hid (H4.out.chg0 hc5)
  go_wp2_with fail
  go_at_call 114
  refine (H5.out.twice (by simp)).mono ?_
  rintro e w6 ⟨vt, rfl, hT, hc6⟩
  have H6 := Lib.hid (H5.out.chg0 hc6)
  have eix : idxOf kx ([] ++ [kx] ++ [ky] ++ [kx]) = [0, 2] := (idx3 hk).1
  have etw : twiceL ([] ++ [kx] ++ [ky] ++ [kx]) = [kx] := twice3 hk
  have eki : kinds ([] ++ [kx] ++ [ky] ++ [kx]) ([] ++ [kx] ++ [ky] ++ [kx]).length = 2 := kinds3 hk
  have hU6 : UOwn w6 w4.heap.size va [0, 2] := by rw [← eix]; exact own_chg hU hc6 (by simp)
  have hT6 : HOwn w6 w5.heap.size vt [kx.1] := by rw [etw] at hT; exact hT
  have hun := fun n => (H6.out.chg0 ((Chg.refl [] w6).drewN n)).unlike
  rw [eki] at hun
  have hsi := fun n => (H6.out.chg0 ((Chg.refl [] w6).drewN n)).size (by simp)
  obtain ⟨ua, ucap, rfl, hur⟩ := hU6.nis
  rcases hur with hur | ⟨gu, rfl, hgu, _, hur⟩
  · cases hur
  obtain ⟨ta, tcap, rfl, htr⟩ := hT6.rows
  rcases htr with htr | ⟨gt, rfl, hgt, _, htr⟩
  · cases htr
  have u0 := hur 0 (by simp)
  have u1 := hur 1 (by simp)
  have t0 := htr 0 (by simp)
  rw [Nat.zero_mul] at t0
  obtain ⟨p2, p3, p4, p5⟩ := HRR.out _ H6.out.out
  have hfin : Chg [] w0 w6 := hcW.trans H6.out.out (fun x hx => .inr (hF1o x hx))
  clear hur htr hU6 hT6 eix etw eki hU hT hc6 hc5 hcW hF1o hn2 hn3
  go_wp2_with fail
  go_quiet ((first | (go_at_call 115; exact Calls.quiet_of_same (hun _)) | (go_at_call 106; exact Calls.quiet_of_same (hsi _))))
  go_wp2
  go_ret
  exact ⟨rfl, hfin.drewN _⟩
end Go.Proofs.YtpklkefnmoaaaaaGreatDoor

/- slices.SortFunc on a row of the call's own, in Chg's words. Nothing of a program. -/
import Derived.Test.YtonppfebmeehcaaOwn
import Derived.Shelf.SlSortCmp.NoneTotal
namespace Go.Proofs.Ytonppfebmeehcaa
open Go.RowKit Go.Shelf Go.Sort
set_option linter.unusedVariables false
set_option linter.unusedSimpArgs false
section
variable {α : Type} [Inhabited α]
omit [Inhabited α] in
theorem flatMap_at {enc : α → List Value} {k : Nat} (hk : ∀ x, (enc x).length = k) : ∀ (l : List α) (i : Nat) (hi : i < l.length) (j : Nat), j < k → (l.flatMap enc)[i * k + j]? = (enc l[i])[j]? := by
  intro l
  induction l with
  | nil => intro i hi; simp at hi
  | cons x l ih =>
    intro i hi j hj
    rw [List.flatMap_cons]
    cases i with
    | zero => rw [List.getElem?_append_left (by rw [hk]; omega)]; simp
    | succ i =>
      rw [List.getElem?_append_right (by rw [hk, Nat.succ_mul]; omega), hk, show (i + 1) * k + j - k = i * k + j from by rw [Nat.succ_mul]; omega, ih i (by simpa using hi) j hj]
      simp
omit [Inhabited α] in
theorem flatMap_len {enc : α → List Value} {k : Nat} (hk : ∀ x, (enc x).length = k) : ∀ (l : List α), (l.flatMap enc).length = l.length * k := by
  intro l
  induction l with
  | nil => simp
  | cons x l ih => rw [List.flatMap_cons, List.length_append, hk, ih, List.length_cons, Nat.succ_mul, Nat.add_comm]
theorem flatK_toList {enc : α → List Value} {k : Nat} (hk : ∀ x, (enc x).length = k) (l : List α) : (flatK enc k l.toArray).toList = l.flatMap enc := by
  rcases Nat.eq_zero_or_pos k with h0 | h0
  · subst h0
    have h1 := flatMap_len hk l
    rw [Nat.mul_zero] at h1
    rw [List.eq_nil_of_length_eq_zero h1]
    simp [flatK]
  · apply List.ext_getElem?
    intro t
    by_cases ht : t < l.length * k
    · have hi : t / k < l.length := Nat.div_lt_of_lt_mul (by rw [Nat.mul_comm]; exact ht)
      have hj : t % k < k := Nat.mod_lt _ h0
      have e := flatMap_at hk l (t / k) hi (t % k) hj
      rw [show t / k * k + t % k = t from by rw [Nat.mul_comm]; exact Nat.div_add_mod t k] at e
      rw [e]
      have hl : t % k < (enc l[t / k]).length := by rw [hk]; exact hj
      simp only [flatK, Array.toList_map, Array.toList_range, List.size_toArray, List.getElem?_map, List.getElem?_range ht, Option.map_some]
      have e2 : l.toArray[t / k]! = l[t / k] := by rw [getElem!_pos _ _ (by simpa using hi)]; simp
      rw [e2, getElem!_pos (enc l[t / k]) (t % k) hl, List.getElem?_eq_getElem hl]
    · rw [List.getElem?_eq_none (by simp [flatK]; omega), List.getElem?_eq_none (by rw [flatMap_len hk]; omega)]
theorem srt_heap {enc : α → List Value} {k : Nat} {w : World} {g n : Nat} {os : Array Obj} {cur : Array Value} {e : TypeId} {fr : Nat × Nat} (d : Array α) (hb : w.heap[g]? = some (.cells cur e fr)) :
    (sortWorldK enc k w g 0 n d os).heap[g]? = some (.cells (putCells id 0 (flatK enc k d) cur) e fr) := by
  have hg : g < w.heap.size := (Array.getElem?_eq_some_iff.1 hb).1
  unfold sortWorldK
  rw [heap_grow_old _ _ (by simpa [putRowK] using hg)]
  simp [putRowK, putRow, mapBlock, Sort.ahead, Array.getElem?_modify, hb, onCells]
theorem srt_chg {enc : α → List Value} {k : Nat} {w : World} {g n : Nat} {os : Array Obj} (d : Array α) : Chg [g] w (sortWorldK enc k w g 0 n d os) := by
  refine ⟨rfl, rfl, rfl, by simp [sortWorldK, putRowK, mapBlock, Sort.ahead, putRow], fun j hj hne => ?_⟩
  unfold sortWorldK
  rw [heap_grow_old _ _ (by simpa [putRowK] using hj)]
  have : g ≠ j := fun e => hne (by simp [e])
  simp [putRowK, putRow, mapBlock, Sort.ahead, Array.getElem?_modify, this]
theorem take_put (cur F : Array Value) (h : F.size ≤ cur.size) : (putCells id 0 F cur).toList.take F.size = F.toList := by
  apply List.ext_getElem?
  intro j
  by_cases hj : j < F.size
  · rw [List.getElem?_take_of_lt hj, Array.getElem?_toList]
    simp [putCells, hj, show j < cur.size by omega]
  · rw [List.getElem?_take_eq_none (by omega), List.getElem?_eq_none (by simp; omega)]
variable {P : Program} {ρ : Ren}
/-- What sorting comes to. -/
def SortP (cf : α → α → Int) (enc : α → List Value) (k base : Nat) (e : TypeId) (v : Value) (l : List α) (w : World) (en : Ending) (w' : World) : Prop :=
  en = .returned (.tuple #[]) ∧ ∃ l' : List α, l'.Perm l ∧ (∀ i j (hi : i < j) (hj : j < l'.length), ¬ cf l'[j] l'[i] < 0) ∧ w'.ownsRow base e k v l.length (l'.flatMap enc) ∧ Chg (ob v) w w'
theorem sort_calls (L : SlLaysF0.n6 P ρ) (k : Nat) (aE : ∀ w, (isAgg (ρ.t 24)).run P w = .ok true w) (zE : ∀ w, (Go.sizeOf (ρ.t 24)).run P w = .ok k w) (enc : α → List Value) (hk : ∀ x, (enc x).length = k) (h1 : ∀ x, ∀ v ∈ enc x, v.oneCell' = true) (cf : α → α → Int) (hO : SWO (ltOf cf)) (g : Nat) (cb : Array Value)
    (eg : ∀ args w, (callFunc g args).run P w = .ok (.enter g args) w) (w : World) (base : Nat) (e : TypeId) (v : Value) (l : List α) (hown : w.ownsRow base e k v l.length (l.flatMap enc)) (hlen : l.length < 4611686018427387904)
    (hcmp : ∀ blk, ob v = [blk] → CmpLays P g cb enc k cf blk 0 l.length w) :
    Calls P (ρ.f 6) #[v, .func (.func g) #[] cb] w (SortP cf enc k base e v l w) := by
  rcases hown.2 with ⟨hv, h0⟩ | ⟨g0, cap, cur, hv, hb, hh, hnc, hcm, hcs, ht⟩
  · have hl : l = [] := List.eq_nil_of_length_eq_zero h0
    subst hl
    subst hv
    refine (AnyF.slices_SortFunc_none L none 0 _ w).mono ?_
    rintro en w' ⟨rfl, rfl⟩
    exact ⟨rfl, [], List.Perm.refl _, by simp, by simpa using hown, Chg.refl _ _⟩
  · subst hv
    have hF := flatK_toList hk l
    have hFs : (flatK enc k l.toArray).size = l.length * k := by rw [← Array.length_toList, hF, flatMap_len hk]
    have hcz : l.length * k ≤ cur.size := by rw [hcs]; exact Nat.mul_le_mul_right k hnc
    have hH : HoldsK enc k w g0 0 l.toArray := by
      intro j hj
      rw [hFs] at hj
      refine ⟨?_, blk_frozen hh _⟩
      rw [Nat.zero_add]
      refine blk_cell hh j ?_
      have h3 : (cur.toList.take (l.length * k))[j]? = (l.flatMap enc)[j]? := by rw [ht]
      rw [List.getElem?_take_of_lt hj, Array.getElem?_toList] at h3
      rw [h3, ← hF, Array.getElem?_toList, getElem!_pos _ _ (by omega), Array.getElem?_eq_getElem (by omega)]
      rfl
    have hs := AnyQ.slices_SortFunc L k aE zE enc hk h1 cf hO g cb g0 0 cap l.toArray w eg (by simpa using hcmp g0 rfl) hH (blk_lt hh) (by simpa using hlen)
    rw [show l.toArray.size = l.length from by simp] at hs
    refine hs.mono ?_
    rintro en w' ⟨rfl, d', n, os, hp, hsrt, rfl⟩
    have hsz : d'.size = l.length := by simpa using hp.1
    refine ⟨rfl, d'.toList, ?_, ?_, ?_, srt_chg d'⟩
    · have := hp.2.2
      have e1 : d'.extract 0 l.length = d' := by rw [← hsz]; simp
      have e2 : l.toArray.extract 0 l.length = l.toArray := by rw [show l.length = l.toArray.size from by simp]; simp
      rw [e1, e2] at this
      simpa using this
    · intro i j hi hj
      simp only [Array.length_toList] at hj
      have := hsrt i j (Nat.zero_le _) hi (by omega)
      rw [getElem!_pos _ _ (by omega), getElem!_pos _ _ (by omega)] at this
      simpa [ltOf] using this
    · have hd : flatK enc k d' = flatK enc k d'.toList.toArray := by simp
      have hF2 := flatK_toList hk d'.toList
      have hFs2 : (flatK enc k d').size = l.length * k := by rw [hd, ← Array.length_toList, hF2, flatMap_len hk, Array.length_toList, hsz]
      refine ⟨by rw [flatMap_len hk, Array.length_toList, hsz], .inr ⟨g0, cap, _, rfl, hb, srt_heap d' hh, hnc, hcm, by simp [putCells, hcs], ?_⟩⟩
      rw [← hFs2, take_put _ _ (by rw [hFs2]; exact hcz), hd, hF2]
end
end Go.Proofs.Ytonppfebmeehcaa

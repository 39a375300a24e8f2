/- A slice's row, wherever in its block it begins: reading it, cutting its head off, appending. Nothing of a program. -/
import Derived.Test.YtfmdghijbkddpaaRng
import Derived.ArgAppend
import Derived.Maps.AppendAt
namespace Go.Proofs.Ytfmdghijbkddpaa
open Go.RowKit
set_option linter.unusedVariables false
set_option linter.unusedSimpArgs false

def RowIs (w : World) (e : TypeId) (size : Nat) (v : Value) (n : Nat) (xs : List Value) : Prop :=
  xs.length = n * size ∧ ((v = .slice none 0 0 ∧ n = 0) ∨
    ∃ g o cap cur, v = .slice (some ⟨g, o, none⟩) n cap ∧ w.heap[g]? = some (.cells cur e (0, 0)) ∧ n ≤ cap ∧ cap ≤ maxLen ∧ o + cap * size ≤ cur.size ∧ (cur.toList.drop o).take (n * size) = xs)

section
variable {w w' : World} {e : TypeId} {size : Nat} {v : Value} {n : Nat} {xs : List Value}
theorem RowIs.nil (w : World) (e : TypeId) (size : Nat) : RowIs w e size (.slice none 0 0) 0 [] := ⟨by simp, .inl ⟨rfl, rfl⟩⟩
theorem RowIs.slice (h : RowIs w e size v n xs) : ∃ a cap, v = .slice a n cap ∧ n ≤ cap := by
  rcases h.2 with ⟨rfl, rfl⟩ | ⟨g, o, cap, cur, rfl, _, hc, _⟩
  · exact ⟨none, 0, rfl, Nat.le_refl _⟩
  · exact ⟨_, _, rfl, hc⟩
theorem RowIs.lt (h : RowIs w e size v n xs) : ∀ g, v.ownBlock = some g → g < w.heap.size := by
  intro g hg
  rcases h.2 with ⟨rfl, _⟩ | ⟨g', o, cap, cur, rfl, hb, _⟩
  · simp [Value.ownBlock] at hg
  · simp [Value.ownBlock] at hg; subst hg; exact blk_lt hb
theorem RowIs.chg {F : List Nat} (h : RowIs w e size v n xs) (hc : Chg F w w') (hF : ∀ g, v.ownBlock = some g → g ∉ F) : RowIs w' e size v n xs := by
  obtain ⟨hl, hr | ⟨g, o, cap, cur, hv, hb, rest⟩⟩ := h
  · exact ⟨hl, .inl hr⟩
  · exact ⟨hl, .inr ⟨g, o, cap, cur, hv, hc.at hb (hF g (by rw [hv]; rfl)), rest⟩⟩
theorem RowIs.chg0 (h : RowIs w e size v n xs) (hc : Chg [] w w') : RowIs w' e size v n xs := h.chg hc (by simp)
theorem RowIs.cell {g o cap : Nat} (h : RowIs w e size (.slice (some ⟨g, o, none⟩) n cap) n xs) {j : Nat} {u : Value} (hu : xs[j]? = some u) : w.cell? ⟨g, o + j, none⟩ = some u := by
  rcases h.2 with ⟨h1, _⟩ | ⟨g', o', cap', cur, h1, hb, _, _, _, ht⟩
  · cases h1
  · simp at h1
    obtain ⟨⟨rfl, rfl⟩, rfl⟩ := h1
    rw [cell_of_row w g (o + j) cur e (0, 0) hb]
    rw [← ht, List.getElem?_take] at hu
    split at hu
    · rw [List.getElem?_drop] at hu
      simpa using hu
    · cases hu
theorem RowIs.ptr (h : RowIs w e size v n xs) (hn : 0 < n) : ∃ g o cap, v = .slice (some ⟨g, o, none⟩) n cap ∧ n ≤ cap ∧ v.ownBlock = some g := by
  rcases h.2 with ⟨_, rfl⟩ | ⟨g, o, cap, cur, rfl, _, hc, _⟩
  · omega
  · exact ⟨g, o, cap, rfl, hc, rfl⟩

/-- 'v[1:]' where there is one: as the walk has it. -/
theorem RowIs.tail {g o cap : Nat} (h : RowIs w e 1 (.slice (some ⟨g, o, none⟩) (n + 1) cap) (n + 1) xs) :
    RowIs w e 1 (.slice (if cap = 1 then some ⟨g, o, none⟩ else some ⟨g, o + 1, none⟩) n (cap - 1)) n (xs.drop 1) := by
  obtain ⟨hl, ⟨h1, _⟩ | ⟨g', o', cap', cur, h1, hb, hc, hm, hs, ht⟩⟩ := h
  · cases h1
  · simp at h1
    obtain ⟨⟨rfl, rfl⟩, rfl⟩ := h1
    refine ⟨by simp at hl ⊢; omega, .inr ?_⟩
    by_cases h1 : cap = 1
    · subst h1
      obtain rfl : n = 0 := by omega
      refine ⟨g, o, 0, cur, by simp, hb, by omega, by omega, by omega, ?_⟩
      have hx1 : xs.drop 1 = [] := List.drop_eq_nil_of_le (by simp only [Nat.zero_add, Nat.one_mul] at hl; omega)
      rw [hx1]
      simp
    · refine ⟨g, o + 1, cap - 1, cur, by rw [if_neg h1], hb, by omega, by omega, by omega, ?_⟩
      rw [← ht]
      simp only [Nat.mul_one]
      rw [← List.drop_drop, List.drop_take]
      simp

variable {P : Program}
theorem RowIs.app (h : RowIs w e size v n xs) (t ty : TypeId) (i : TypeInfo) (z : Value) (bytes : Nat) (ht : P.underlying t = some (.slice e)) (hi : P.info? e = some i) (hz : i.zero = some z)
    (hsize : i.size = size) (hby : i.bytes = bytes) (hzs : z.cells.size = size) (hsz : 0 < size)
    (a : Addr) (m c : Nat) (news : List Value) (hl : news.length = m * size) (hnews : ∀ j u, news[j]? = some u → w.cell? (a.add j) = some u) (h1 : ∀ u ∈ news, u.oneCell' = true)
    (h63 : n + m ≤ maxLen) (hbytes : (n + m) * bytes ≤ 140737488355328) :
    ∃ v' w', (Builtin.append_ #[t, t] ty #[v, .slice (some a) m c]).run P w = .ok v' w' ∧ RowIs w' e size v' (n + m) (xs ++ news) ∧ Chg v.ownBlock.toList w w' ∧ (v'.ownBlock = v.ownBlock ∨ v'.ownBlock = some w.heap.size) := by
  subst hsize
  subst hby
  have hsmall : n + m ≤ 9223372036854775807 := by simp only [maxLen] at h63; omega
  have hlen : (xs ++ news).length = (n + m) * i.size := by rw [List.length_append, h.1, hl, Nat.add_mul]
  have grown : ∀ (old : Nat), old < n + m → ∀ F,
      RowIs (w.drew.alloc (.cells (xs.toArray ++ news.toArray ++ Builtin.zeroCells z.cells (grownCap w (n + m) old e - (n + m))) e)) e i.size
        (.slice (some ⟨w.heap.size, 0, none⟩) (n + m) (grownCap w (n + m) old e)) (n + m) (xs ++ news) ∧
      Chg F w (w.drew.alloc (.cells (xs.toArray ++ news.toArray ++ Builtin.zeroCells z.cells (grownCap w (n + m) old e - (n + m))) e)) := by
    intro old ho F
    have hge := grownCap_ge w (n + m) old e
    have hcm : grownCap w (n + m) old e ≤ maxLen := grownCap_le_maxLen w (n + m) old e h63
    refine ⟨⟨hlen, .inr ⟨w.heap.size, 0, _, _, rfl, blk_new w.drew _, hge, hcm, ?_, ?_⟩⟩, (Chg.refl F w).drew.alloc _⟩
    · simp only [Array.size_append, List.size_toArray, size_zeroCells, hzs, h.1, hl, ← Nat.add_mul]
      rw [Nat.zero_add]
      apply Nat.mul_le_mul_right
      omega
    · simp only [Array.toList_append, List.append_assoc, List.drop_zero]
      rw [← List.append_assoc, ← hlen]
      exact List.take_left
  rcases h.2 with ⟨rfl, rfl⟩ | ⟨g, o, cap, cur, rfl, hg, hnc, hcm, hcs, htake⟩
  · have hx : xs = [] := List.eq_nil_of_length_eq_zero (by simpa using h.1)
    subst hx
    by_cases hm : m = 0
    · subst hm
      have hn : news = [] := List.eq_nil_of_length_eq_zero (by simpa using hl)
      subst hn
      refine ⟨.slice none 0 0, w, ?_, RowIs.nil w e i.size, Chg.refl _ _, .inl rfl⟩
      simp [Builtin.append_, run_underlying ht, sizeOf, typeInfo, hi, Builtin.lenOf, Builtin.firstCells, loadCells, loadCellsFrom]
    · have hr := run_append_nil (P := P) w t ty e i z ht hi hz a m c news hl hnews (by omega) (by omega) (by have hb := hbytes; simp only [Nat.zero_add] at hb; omega)
      have hgr := grown 0 (by omega) (Value.ownBlock (.slice none 0 0)).toList
      simp only [Nat.zero_add, List.nil_append, Array.empty_append] at hgr ⊢
      exact ⟨_, _, hr, hgr.1, hgr.2, .inr rfl⟩
  · by_cases hroom : n + m ≤ cap
    · have hfit : o + n * i.size + news.length ≤ cur.size := by
        rw [hl, Nat.add_assoc, ← Nat.add_mul]
        exact Nat.le_trans (Nat.add_le_add_left (Nat.mul_le_mul_right _ hroom) _) hcs
      have hr := run_append_room_cells (P := P) w t ty e i ht hi g o n cap a m c news hl hnews h1 hroom
        (fun j hj => by rw [cell_of_row w g _ cur e (0, 0) hg]; simp; omega) (fun j hj => frozen_of_row w g _ cur e hg)
      have hb := setCells_heap g e news (o + n * i.size) cur w hg hfit
      refine ⟨_, _, hr, ⟨hlen, .inr ⟨g, o, cap, _, rfl, hb, hroom, hcm, ?_, ?_⟩⟩, ?_, .inl rfl⟩
      · simp only [List.size_toArray, List.length_append, List.length_take, List.length_drop, Array.length_toList]
        omega
      · have hx : xs.length = n * i.size := h.1
        have e1 : (cur.toList.take (o + n * i.size) ++ news ++ cur.toList.drop (o + n * i.size + news.length)).drop o = xs ++ (news ++ cur.toList.drop (o + n * i.size + news.length)) := by
          rw [List.append_assoc, List.drop_append_of_le_length (by simp; omega), List.drop_take, Nat.add_sub_cancel_left, htake]
        rw [e1, ← List.append_assoc, ← hlen]
        exact List.take_left
      · obtain ⟨q1, q2, q3⟩ := setCells_os g news (o + n * i.size) w
        exact ⟨q1, q2, q3, by rw [setCells_size]; exact Nat.le_refl _, fun k _ hk => setCells_other g _ _ _ _ (fun e => hk (by simp [Value.ownBlock, e]))⟩
    · have holds : ∀ j u, xs[j]? = some u → w.cell? ((⟨g, o, none⟩ : Addr).add j) = some u := fun j u hu => by rw [Addr.add_mid]; exact h.cell hu
      have hr := run_append_grow (P := P) w t ty e i z ht hi hz ⟨g, o, none⟩ n cap xs h.1 holds a m c news hl hnews (by omega) (by omega) (growslice_fits (by omega) hbytes)
      have hgr := grown cap (by omega) (Value.ownBlock (.slice (some ⟨g, o, none⟩) n cap)).toList
      exact ⟨_, _, hr, hgr.1, hgr.2, .inr rfl⟩
end
/-- append, held back till it is known what it comes to. -/
def apX (ts : Array TypeId) (ty : TypeId) (xs : Array Value) : Sem Value := Builtin.append_ ts ty xs
@[go_sem ↓] theorem hold_ap (ts : Array TypeId) (ty : TypeId) (xs : Array Value) : Builtin.append_ ts ty xs = apX ts ty xs := rfl
end Go.Proofs.Ytfmdghijbkddpaa

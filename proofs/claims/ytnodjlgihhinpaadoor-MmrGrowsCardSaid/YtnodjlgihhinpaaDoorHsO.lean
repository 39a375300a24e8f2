/- Rows of hashes of the call's own. -/
import Derived.Test.YtnodjlgihhinpaaDoorOwn
import Derived.Test.YtnodjlgihhinpaaDoorHashEq
namespace Go.Proofs.YtnodjlgihhinpaaDoor
open Go.RowKit
set_option linter.unusedVariables false
set_option linter.unusedSimpArgs false

@[go_sem ↓] theorem hold_bs_Hash (n : Nat) (ps : Array (Nat × Value)) : Instr.buildSlice 22 n ps = bsX 22 n ps := rfl
theorem u_hashes : Tryd.prog.underlying 22 = some (.slice 37) := by kernel_rfl
theorem i_Hash : (Tryd.prog.info? 37).map (fun i => (i.zero, i.size, i.bytes)) = some (some (.agg zeroHash), 32, 32) := by kernel_rfl
@[go_sem] theorem bs_Hash (cs : Array Value) (hs : cs.size = 32) (w : World) : (bsX 22 1 #[(0, .agg cs)]).run Tryd.prog w = .ok (.slice (some ⟨w.heap.size, 0, none⟩) 1 1) (w.alloc (.cells cs 37)) := by
  obtain ⟨i, hi, hz, hsz, _⟩ := infoOf i_Hash
  unfold bsX Instr.buildSlice
  have h32 : zeroHash.size = 32 := zeroHash_size
  have hso : ∀ w, (sizeOf 37).run Tryd.prog w = .ok 32 w := by intro w; simp [sizeOf, typeInfo, hi, hsz]
  simp only [Sem.run_bind, run_underlying u_hashes, Result.andThen_ok, hso, zv_Hash, Sem.run_ite, Nat.one_mul, Sem.run_pure]
  simp only [show ¬ (32 > 2 ^ 24) from by decide, show ¬ (32 = 0) from by decide, if_false, Result.andThen_ok, Value.cells]
  rw [fill_part _ _ 0 0 32 (.agg cs) _ rfl (by simpa [Value.cells] using hs) (by simp)]
  have e : ((((Array.range 32).map fun x => zeroHash[x % zeroHash.size]!).toList.take 0 ++ (Value.agg cs).cells.toList ++ ((Array.range 32).map fun x => zeroHash[x % zeroHash.size]!).toList.drop (0 + 32)).toArray) = cs := by
    apply Array.toList_inj.1
    simp [Value.cells]
  rw [e]
  rfl
def HOwn (w : World) (B : Nat) (v : Value) (hs : List (Array Value)) : Prop := w.ownsRow B 37 32 v hs.length (hs.flatMap (·.toList)) ∧ ∀ h ∈ hs, IsHash h
theorem HOwn.nil (w : World) (B : Nat) : HOwn w B (.slice none 0 0) [] := ⟨own_nil _ _ _ _, by simp⟩
theorem HOwn.chg {w w' : World} {B : Nat} {v : Value} {hs : List (Array Value)} {F : List Nat} (h : HOwn w B v hs) (hc : Chg F w w') (hF : ∀ k ∈ ob v, k ∉ F) : HOwn w' B v hs := ⟨own_chg h.1 hc hF, h.2⟩
theorem flat_length {hs : List (Array Value)} (h : ∀ x ∈ hs, IsHash x) : (hs.flatMap (·.toList)).length = hs.length * 32 := by
  induction hs with
  | nil => rfl
  | cons x hs ih =>
    rw [List.flatMap_cons, List.length_append, ih (fun y hy => h y (by simp [hy])), List.length_cons, Array.length_toList, (h x (by simp)).1]
    omega
theorem flat_at {hs : List (Array Value)} (h : ∀ x ∈ hs, IsHash x) : ∀ (i : Nat) (hi : i < hs.length) (j : Nat) (hj : j < 32), (hs.flatMap (·.toList))[i * 32 + j]? = (hs[i])[j]? := by
  induction hs with
  | nil => intro i hi; simp at hi
  | cons x hs ih =>
    intro i hi j hj
    have hx := (h x (by simp)).1
    rw [List.flatMap_cons]
    cases i with
    | zero =>
      rw [List.getElem?_append_left (by simp; omega)]
      simp
    | succ i =>
      rw [List.getElem?_append_right (by simp; omega), Array.length_toList, hx, show (i + 1) * 32 + j - 32 = i * 32 + j from by omega, ih (fun y hy => h y (by simp [hy])) i (by simpa using hi) j hj]
      simp
theorem HOwn.hs {w : World} {B : Nat} {v : Value} {hs : List (Array Value)} (h : HOwn w B v hs) : HsIs w v hs := by
  refine ⟨h.2, ?_⟩
  rcases h.1.2 with ⟨rfl, h0⟩ | ⟨g, cap, cur, rfl, hb, hh, hnc, hm, hcs, ht⟩
  · have : hs = [] := List.eq_nil_of_length_eq_zero h0
    subst this
    exact ⟨none, 0, rfl, .inl rfl⟩
  · refine ⟨_, cap, rfl, .inr ⟨g, 0, rfl, blk_lt hh, fun i hi => ?_⟩⟩
    have hx := h.2 hs[i] (List.getElem_mem hi)
    refine rng?_mk hx.1 fun j hj => ?_
    rw [hx.1] at hj
    refine blk_cell hh (0 + i * 32 + j) ?_
    have e := flat_at h.2 i hi j hj
    rw [← ht, List.getElem?_take] at e
    split at e
    · rw [Nat.zero_add, ← Array.getElem?_toList, e, Array.getElem?_eq_getElem]
    · rw [Array.getElem?_eq_getElem (by rw [hx.1]; exact hj)] at e
      cases e
theorem HOwn.push {w : World} {B : Nat} {v : Value} {l : List (Array Value)} (h : HOwn w B v l) (x : Array Value) (hx : IsHash x) (hlen : l.length ≤ 4294967296) (hB : B ≤ w.heap.size) (ty : TypeId) :
    ∃ v' w', (Builtin.append_ #[22, 22] ty #[v, .slice (some ⟨w.heap.size, 0, none⟩) 1 1]).run Tryd.prog (w.alloc (.cells x 37)) = .ok v' w' ∧ HOwn w' B v' (l ++ [x]) ∧ Chg (ob v) w w' ∧ (∀ k ∈ ob v', k ∈ ob v ∨ w.heap.size ≤ k) := by
  obtain ⟨i, hi, hz, hsz, hby⟩ := infoOf i_Hash
  have hc : Chg [] w (w.alloc (.cells x 37)) := (Chg.refl _ _).alloc _
  have h1 := own_chg h.1 hc (by simp)
  obtain ⟨v', w', hr, h2, h3, h4⟩ := run_append_any (P := Tryd.prog) (w.alloc (.cells x 37)) B 22 ty 37 i _ 32 32 u_hashes hi hz hsz hby zeroHash_size (by decide) v l.length _ h1 (some ⟨w.heap.size, 0, none⟩) 1 1 x.toList
    ⟨by rw [Array.length_toList, hx.1], fun _ => ⟨w.heap.size, 0, rfl, fun j u hu => by
      rw [Nat.zero_add]
      exact blk_cell (blk_new w _) j (by simpa using hu)⟩⟩ (fun u hu => by obtain ⟨n, rfl, _⟩ := hx.2 u hu; rfl) (by unfold maxLen; omega) (by omega) (by have := hc.size; omega)
  refine ⟨v', w', hr, ⟨?_, fun y hy => ?_⟩, hc.of_nil.trans h3 (fun k hk => .inl hk), fun k hk => ?_⟩
  · rw [List.length_append, List.flatMap_append]
    simpa using h2
  · rcases List.mem_append.1 hy with q | q
    · exact h.2 y q
    · rw [List.mem_singleton.1 q]; exact hx
  · rcases h4 k hk with q | q
    · exact .inl q
    · right; have := hc.size; omega
end Go.Proofs.YtnodjlgihhinpaaDoor

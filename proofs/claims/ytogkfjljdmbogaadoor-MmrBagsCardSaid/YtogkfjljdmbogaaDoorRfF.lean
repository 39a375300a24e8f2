/- The document's hash: rows of blocks; a text's blocks walked. -/
import Derived.Test.YtogkfjljdmbogaaDoorRfP
import Derived.Test.YtogkfjljdmbogaaDoorRfC
import Derived.Test.YtogkfjljdmbogaaDoorHsO
import Derived.Test.YtogkfjljdmbogaaDoorHaJ
namespace Go.Proofs.YtogkfjljdmbogaaDoor
open Go.RowKit
set_option linter.unusedVariables false
set_option linter.unusedSimpArgs false

/-! Rows of blocks of 64 bytes. -/
@[go_sem ↓] theorem hold_bs_a64b (n : Nat) (ps : Array (Nat × Value)) : Instr.buildSlice 98 n ps = bsX 98 n ps := rfl
theorem u_blocks64 : Tryd.prog.underlying 98 = some (.slice 102) := by kernel_rfl
theorem i_a64b : (Tryd.prog.info? 102).map (fun i => (i.zero, i.size, i.bytes)) = some (some (.agg zero_a64b), 64, 64) := by kernel_rfl
@[go_sem] theorem bs_a64b (cs : Array Value) (hs : cs.size = 64) (w : World) : (bsX 98 1 #[(0, .agg cs)]).run Tryd.prog w = .ok (.slice (some ⟨w.heap.size, 0, none⟩) 1 1) (w.alloc (.cells cs 102)) := by
  obtain ⟨i, hi, hz, hsz, _⟩ := infoOf i_a64b
  unfold bsX Instr.buildSlice
  have h32 : zero_a64b.size = 64 := zero_a64b_size
  have hso : ∀ w, (sizeOf 102).run Tryd.prog w = .ok 64 w := by intro w; simp [sizeOf, typeInfo, hi, hsz]
  simp only [Sem.run_bind, run_underlying u_blocks64, Result.andThen_ok, hso, zv_a64b, Sem.run_ite, Nat.one_mul, Sem.run_pure]
  simp only [show ¬ (64 > 2 ^ 24) from by decide, show ¬ (64 = 0) from by decide, if_false, Result.andThen_ok, Value.cells]
  rw [fill_part _ _ 0 0 64 (.agg cs) _ rfl (by simpa [Value.cells] using hs) (by simp)]
  have e : ((((Array.range 64).map fun x => zero_a64b[x % zero_a64b.size]!).toList.take 0 ++ (Value.agg cs).cells.toList ++ ((Array.range 64).map fun x => zero_a64b[x % zero_a64b.size]!).toList.drop (0 + 64)).toArray) = cs := by
    apply Array.toList_inj.1
    simp [Value.cells]
  rw [e]
  rfl
def BlkOk (b : List Nat) : Prop := b.length = 64 ∧ ∀ x ∈ b, x < 256
def AOwn (w : World) (B : Nat) (v : Value) (bs : List (List Nat)) : Prop := w.ownsRow B 102 64 v bs.length (bs.flatMap fun b => (hV b).toList) ∧ ∀ b ∈ bs, BlkOk b
theorem AOwn.nil (w : World) (B : Nat) : AOwn w B (.slice none 0 0) [] := ⟨own_nil _ _ _ _, by simp⟩
theorem AOwn.chg {w w' : World} {B : Nat} {v : Value} {bs : List (List Nat)} {F : List Nat} (h : AOwn w B v bs) (hc : Chg F w w') (hF : ∀ k ∈ ob v, k ∉ F) : AOwn w' B v bs := ⟨own_chg h.1 hc hF, h.2⟩
theorem AOwn.push {w : World} {B : Nat} {v : Value} {l : List (List Nat)} (h : AOwn w B v l) (x : List Nat) (hx : BlkOk x) (hlen : l.length ≤ 1073741824) (hB : B ≤ w.heap.size) (ty : TypeId) :
    ∃ v' w', (Builtin.append_ #[98, 98] ty #[v, .slice (some ⟨w.heap.size, 0, none⟩) 1 1]).run Tryd.prog (w.alloc (.cells (hV x) 102)) = .ok v' w' ∧ AOwn w' B v' (l ++ [x]) ∧ Chg (ob v) w w' ∧ (∀ k ∈ ob v', k ∈ ob v ∨ w.heap.size ≤ k) := by
  obtain ⟨i, hi, hz, hsz, hby⟩ := infoOf i_a64b
  have hc : Chg [] w (w.alloc (.cells (hV x) 102)) := (Chg.refl _ _).alloc _
  have h1 := own_chg h.1 hc (by simp)
  obtain ⟨v', w', hr, h2, h3, h4⟩ := run_append_any (P := Tryd.prog) (w.alloc (.cells (hV x) 102)) B 98 ty 102 i _ 64 64 u_blocks64 hi hz hsz hby zero_a64b_size (by decide) v l.length _ h1 (some ⟨w.heap.size, 0, none⟩) 1 1 (hV x).toList
    ⟨by rw [Array.length_toList, hV_size, hx.1], fun _ => ⟨w.heap.size, 0, rfl, fun j u hu => by
      rw [Nat.zero_add]
      exact blk_cell (blk_new w _) j (by simpa using hu)⟩⟩ (fun u hu => by
        simp only [hV, List.mem_map] at hu
        obtain ⟨n, _, rfl⟩ := hu
        rfl) (by unfold maxLen; omega) (by omega) (by have := hc.size; omega)
  refine ⟨v', w', hr, ⟨?_, fun y hy => ?_⟩, hc.of_nil.trans h3 (fun k hk => .inl hk), fun k hk => ?_⟩
  · rw [List.length_append, List.flatMap_append]
    simpa using h2
  · rcases List.mem_append.1 hy with q | q
    · exact h.2 y q
    · rw [List.mem_singleton.1 q]; exact hx
  · rcases h4 k hk with q | q
    · exact .inl q
    · right; have := hc.size; omega
theorem aflat_length {bs : List (List Nat)} (h : ∀ b ∈ bs, BlkOk b) : (bs.flatMap fun b => (hV b).toList).length = bs.length * 64 := by
  induction bs with
  | nil => rfl
  | cons x hs ih =>
    rw [List.flatMap_cons, List.length_append, ih (fun y hy => h y (by simp [hy])), List.length_cons, Array.length_toList, hV_size, (h x (by simp)).1]
    omega
theorem aflat_at {bs : List (List Nat)} (h : ∀ b ∈ bs, BlkOk b) : ∀ (i : Nat) (hi : i < bs.length) (j : Nat) (hj : j < 64), (bs.flatMap fun b => (hV b).toList)[i * 64 + j]? = (hV bs[i])[j]? := by
  induction bs with
  | nil => intro i hi; simp at hi
  | cons x hs ih =>
    intro i hi j hj
    have hx : (hV x).toList.length = 64 := by rw [Array.length_toList, hV_size]; exact (h x (by simp)).1
    rw [List.flatMap_cons]
    cases i with
    | zero =>
      rw [List.getElem?_append_left (by omega)]
      simp
    | succ i =>
      rw [List.getElem?_append_right (by omega), hx, show (i + 1) * 64 + j - 64 = i * 64 + j from by omega, ih (fun y hy => h y (by simp [hy])) i (by simpa using hi) j hj]
      simp
/-- Blocks to be read. -/
def AsIs (w : World) (v : Value) (bs : List (List Nat)) : Prop := (∀ b ∈ bs, BlkOk b) ∧ ∃ a cap, v = .slice a bs.length cap ∧ (bs = [] ∨ ∃ b o, a = some ⟨b, o, none⟩ ∧ b < w.heap.size ∧ ∀ i (hi : i < bs.length), rng? w b (o + i * 64) 64 = some (hV bs[i]))
theorem AOwn.as {w : World} {B : Nat} {v : Value} {bs : List (List Nat)} (h : AOwn w B v bs) : AsIs w v bs := by
  refine ⟨h.2, ?_⟩
  rcases h.1.2 with ⟨rfl, h0⟩ | ⟨g, cap, cur, rfl, hb, hh, hnc, hm, hcs, ht⟩
  · have : bs = [] := List.eq_nil_of_length_eq_zero h0
    subst this
    exact ⟨none, 0, rfl, .inl rfl⟩
  · refine ⟨_, cap, rfl, .inr ⟨g, 0, rfl, blk_lt hh, fun i hi => ?_⟩⟩
    have hx : (hV bs[i]).size = 64 := by rw [hV_size]; exact (h.2 bs[i] (List.getElem_mem hi)).1
    refine rng?_mk hx fun j hj => ?_
    rw [hx] at hj
    refine blk_cell hh (0 + i * 64 + j) ?_
    have e := aflat_at h.2 i hi j hj
    rw [← ht, List.getElem?_take] at e
    split at e
    · rw [Nat.zero_add, ← Array.getElem?_toList, e, Array.getElem?_eq_getElem]
    · rw [Array.getElem?_eq_getElem (by rw [hx]; exact hj)] at e
      cases e
end Go.Proofs.YtogkfjljdmbogaaDoor

/- The hash: one step, the memory and the plain part of the rounds. -/
import Derived.Test.YtnodjlgihhinpaaDoorHaD
import Derived.Laws.CopyRow
namespace Go.Proofs.YtnodjlgihhinpaaDoor
open Go.RowKit
set_option linter.unusedVariables false
set_option linter.unusedSimpArgs false

/-- The eight words behind t rounds. -/
def rT (m v : List Nat) : Nat → List Nat
  | 0 => v
  | t + 1 => roundN (rT m v t) (kTab.getD t 0) (m.getD t 0)
theorem rounds_rT (m v : List Nat) : ∀ n t, roundsN m n t (rT m v t) = rT m v (t + n)
  | 0, t => rfl
  | n + 1, t => by
    have := rounds_rT m v n (t + 1)
    rw [show t + (n + 1) = t + 1 + n from by omega, ← this]
    rfl
theorem rounds_all (m v : List Nat) : roundsN m 64 0 v = rT m v 64 := by
  have := rounds_rT m v 64 0
  rw [Nat.zero_add] at this
  exact this
theorem rT_ok (m v : List Nat) (hl : v.length = 8) (hv : ∀ x ∈ v, x < 4294967296) : ∀ t, (rT m v t).length = 8 ∧ ∀ x ∈ rT m v t, x < 4294967296
  | 0 => ⟨hl, hv⟩
  | t + 1 => by
    obtain ⟨h1, h2⟩ := rT_ok m v hl hv t
    refine ⟨rfl, ?_⟩
    have h3 := getD_lt _ _ h2 (by decide)
    intro x hx
    rw [rT] at hx
    unfold roundN at hx
    simp only [List.mem_cons, List.not_mem_nil, or_false] at hx
    rcases hx with rfl | rfl | rfl | rfl | rfl | rfl | rfl | rfl
    · exact Nat.mod_lt _ (by decide)
    · exact h3 0
    · exact h3 1
    · exact h3 2
    · exact Nat.mod_lt _ (by decide)
    · exact h3 4
    · exact h3 5
    · exact h3 6
theorem kTab_lt (t : Nat) : kTab.getD t 0 < 4294967296 := getD_lt _ _ (by decide) (by decide) t

/-- The words of a state. -/
def sW (st : List Nat) (i : Nat) : List Nat := (List.range i).map (wordN st)
theorem sW_length (st : List Nat) (i : Nat) : (sW st i).length = i := by simp [sW]
theorem sW_lt (st : List Nat) (i : Nat) (hb : ∀ j, st.getD j 0 < 256) : ∀ x ∈ sW st i, x < 4294967296 := by
  intro x hx
  unfold sW at hx
  obtain ⟨j, _, rfl⟩ := List.mem_map.1 hx
  exact word_lt st j hb
theorem sW_next (st : List Nat) (i : Nat) : sW st (i + 1) = sW st i ++ [wordN st i] := by simp [sW, List.range_succ]

structure CsIs (w wx : World) (B : Nat) (st ms ss : List Nat) : Prop where
  a : wx.heap[B]? = some (.cells (hV st) 37 (0, 0))
  c : wx.heap[B + 2]? = some (.cells zeroHash 37 (0, 0))
  m : wx.heap[B + 3]? = some (.cells (wV ms) 170 (0, 0))
  s : wx.heap[B + 4]? = some (.cells (wV ss) 173 (0, 0))
  chg : Chg [] w wx
  sz : wx.heap.size = B + 5
  B0 : w.heap.size = B
theorem CsIs.init {w wx : World} {B : Nat} {st blk ms : List Nat} (h : CpIs w wx B st blk ms) : CsIs w (wx.alloc (.cells zero_a8w 173)) B st ms (List.replicate 8 0) :=
  ⟨blk_alloc h.a _, blk_alloc h.c _, blk_alloc h.m _, by have := blk_new wx (.cells zero_a8w 173); rw [h.sz] at this; exact this, h.chg.alloc _, by rw [World.size_alloc, h.sz], h.B0⟩
theorem CsIs.next {w wx : World} {B i : Nat} {st ms : List Nat} (h : CsIs w wx B st ms (sW st i ++ List.replicate (8 - i) 0)) (hi : i < 8) : CsIs w (wx.setCell ⟨B + 4, i, none⟩ (.int .u32 (wordN st i))) B st ms (sW st (i + 1) ++ List.replicate (8 - (i + 1)) 0) := by
  have h1 := blk_set h.s i (.int .u32 (wordN st i))
  rw [wV_set, set_next _ _ _ _ (sW_length st i) hi, ← sW_next] at h1
  exact ⟨blk_far h.a (by simp) _, blk_far h.c (by simp) _, blk_far h.m (by simp) _, h1, h.chg.setCell (.inr (by rw [h.B0]; simp)) _, by rw [World.size_setCell]; exact h.sz, h.B0⟩
theorem CsIs.cell {w wx : World} {B : Nat} {st ms ss : List Nat} (h : CsIs w wx B st ms ss) (hl : ss.length = 8) {j : Nat} (hj : j < 8) : wx.cell? ⟨B + 4, j, none⟩ = some (.int .u32 (ss.getD j 0)) := blk_cell h.s j (wV_at _ j (by omega))

structure CvIs (w wx : World) (B : Nat) (ms ss vs : List Nat) : Prop where
  c : wx.heap[B + 2]? = some (.cells zeroHash 37 (0, 0))
  m : wx.heap[B + 3]? = some (.cells (wV ms) 170 (0, 0))
  s : wx.heap[B + 4]? = some (.cells (wV ss) 173 (0, 0))
  v : wx.heap[B + 5]? = some (.cells (wV vs) 173 (0, 0))
  chg : Chg [] w wx
  sz : wx.heap.size = B + 6
  B0 : w.heap.size = B
theorem CvIs.drewN {w wx : World} {B : Nat} {ms ss vs : List Nat} (h : CvIs w wx B ms ss vs) (n : Nat) : CvIs w (wx.drewN n) B ms ss vs := ⟨h.c, h.m, h.s, h.v, h.chg.drewN n, h.sz, h.B0⟩
theorem CvIs.init {w wx : World} {B : Nat} {st ms ss : List Nat} (h : CsIs w wx B st ms ss) : CvIs w (wx.alloc (.cells (wV ss) 173)) B ms ss ss :=
  ⟨blk_alloc h.c _, blk_alloc h.m _, blk_alloc h.s _, by have := blk_new wx (.cells (wV ss) 173); rw [h.sz] at this; exact this, h.chg.alloc _, by rw [World.size_alloc, h.sz], h.B0⟩
theorem CvIs.set {w wx : World} {B : Nat} {ms ss vs vs' : List Nat} (h : CvIs w wx B ms ss vs) (hl : vs.length = 8) (hl' : vs'.length = 8) : CvIs w (setRng wx (B + 5) 0 (wV vs')) B ms ss vs' := by
  have h1 := setRng_heap h.v 0 (wV vs') (by rw [wV_size, wV_size]; omega)
  have e : ((wV vs).toList.take 0 ++ (wV vs').toList ++ (wV vs).toList.drop (0 + (wV vs').size)).toArray = wV vs' := by
    apply Array.toList_inj.1
    simp [wV, hl, hl']
  rw [e] at h1
  have hc := setRng_chg wx (B + 5) 0 (wV vs')
  exact ⟨hc.at h.c (by simp), hc.at h.m (by simp), hc.at h.s (by simp), h1, h.chg.setRng (.inr (by rw [h.B0]; omega)) _ _, by rw [setRng_size]; exact h.sz, h.B0⟩
theorem CvIs.vcell {w wx : World} {B : Nat} {ms ss vs : List Nat} (h : CvIs w wx B ms ss vs) (hl : vs.length = 8) {j : Nat} (hj : j < 8) : wx.cell? ⟨B + 5, j, none⟩ = some (.int .u32 (vs.getD j 0)) := blk_cell h.v j (wV_at _ j (by omega))
theorem CvIs.mcell {w wx : World} {B : Nat} {ms ss vs : List Nat} (h : CvIs w wx B ms ss vs) (hl : ms.length = 64) {j : Nat} (hj : j < 64) : wx.cell? ⟨B + 3, j, none⟩ = some (.int .u32 (ms.getD j 0)) := blk_cell h.m j (wV_at _ j (by omega))

@[go_sem ↓] theorem hold_bd_a8w (ps : Array (Nat × Value)) : Instr.build 173 ps = bdX 173 ps := rfl
theorem bd_a8w (a b c d e f g h : Int) (w : World) : (bdX 173 #[(0, .int .u32 a), (1, .int .u32 b), (2, .int .u32 c), (3, .int .u32 d), (4, .int .u32 e), (5, .int .u32 f), (6, .int .u32 g), (7, .int .u32 h)]).run Tryd.prog w = .ok (.agg #[.int .u32 a, .int .u32 b, .int .u32 c, .int .u32 d, .int .u32 e, .int .u32 f, .int .u32 g, .int .u32 h]) w := by kernel_rfl

/-- The answer's bytes. -/
def oB (x : Nat → Nat) (i : Nat) : List Nat := (List.range i).flatMap fun j => bytesN (x j)
theorem oB_length (x : Nat → Nat) (i : Nat) : (oB x i).length = 4 * i := by
  induction i with
  | zero => rfl
  | succ i ih =>
    unfold oB at *
    rw [List.range_succ, List.flatMap_append, List.length_append, ih]
    simp [bytesN]
    omega
theorem oB_next (x : Nat → Nat) (i : Nat) : oB x (i + 1) = oB x i ++ bytesN (x i) := by simp [oB, List.range_succ]
theorem oB_lt (x : Nat → Nat) (i : Nat) : ∀ y ∈ oB x i, y < 256 := by
  intro y hy
  unfold oB at hy
  obtain ⟨j, _, h⟩ := List.mem_flatMap.1 hy
  simp only [bytesN, List.mem_cons, List.not_mem_nil, or_false] at h
  rcases h with rfl | rfl | rfl | rfl <;> exact Nat.mod_lt _ (by decide)
structure CoIs (w wx : World) (B : Nat) (ss vs os : List Nat) : Prop where
  c : wx.heap[B + 2]? = some (.cells zeroHash 37 (0, 0))
  s : wx.heap[B + 4]? = some (.cells (wV ss) 173 (0, 0))
  v : wx.heap[B + 5]? = some (.cells (wV vs) 173 (0, 0))
  o : wx.heap[B + 6]? = some (.cells (hV os) 37 (0, 0))
  chg : Chg [] w wx
  B0 : w.heap.size = B
theorem CoIs.init {w wx : World} {B : Nat} {ms ss vs : List Nat} (h : CvIs w wx B ms ss vs) : CoIs w (wx.alloc (.cells zeroHash 37)) B ss vs (List.replicate 32 0) :=
  ⟨blk_alloc h.c _, blk_alloc h.s _, blk_alloc h.v _, by have := blk_new wx (.cells zeroHash 37); rw [h.sz, zero_hV] at this; exact this, h.chg.alloc _, h.B0⟩
theorem CoIs.chg0 {w wx wy : World} {B : Nat} {ss vs os : List Nat} (h : CoIs w wx B ss vs os) (hc : Chg [] wx wy) : CoIs w wy B ss vs os :=
  ⟨hc.at h.c (by simp), hc.at h.s (by simp), hc.at h.v (by simp), hc.at h.o (by simp), h.chg.nil_trans hc, h.B0⟩
theorem CoIs.scell {w wx : World} {B : Nat} {ss vs os : List Nat} (h : CoIs w wx B ss vs os) (hl : ss.length = 8) {j : Nat} (hj : j < 8) : wx.cell? ⟨B + 4, j, none⟩ = some (.int .u32 (ss.getD j 0)) := blk_cell h.s j (wV_at _ j (by omega))
theorem CoIs.vcell {w wx : World} {B : Nat} {ss vs os : List Nat} (h : CoIs w wx B ss vs os) (hl : vs.length = 8) {j : Nat} (hj : j < 8) : wx.cell? ⟨B + 5, j, none⟩ = some (.int .u32 (vs.getD j 0)) := blk_cell h.v j (wV_at _ j (by omega))
def cpX (ts : Array TypeId) (ty : TypeId) (xs : Array Value) : Sem Value := Builtin.copy_ ts ty xs
@[go_sem ↓] theorem hold_cp (ts : Array TypeId) (ty : TypeId) (xs : Array Value) : Builtin.copy_ ts ty xs = cpX ts ty xs := rfl
/-- Four bytes copied behind those that are there. -/
theorem CoIs.copy {w wx : World} {B i g : Nat} {ss vs : List Nat} {x : Nat → Nat} (h : CoIs w wx B ss vs (oB x i ++ List.replicate (32 - 4 * i) 0)) (hi : i < 8) (hg : BigIs wx g 4 (x i) 4) (hgB : g ≠ B + 6) (ty : TypeId) :
    ∃ wy, (cpX #[84, 84] ty #[.slice (some ⟨B + 6, 4 * i, none⟩) (32 - 4 * i) (32 - 4 * i), .slice (some ⟨g, 0, none⟩) 4 4]).run Tryd.prog wx = .ok (.int .i64 4) wy ∧ CoIs w wy B ss vs (oB x (i + 1) ++ List.replicate (32 - 4 * (i + 1)) 0) := by
  obtain ⟨cs, h1, h2, h3⟩ := hg.ex
  have ecs : cs = hV (bytesN (x i)) := by
    apply Array.ext_getElem?
    intro j
    have f0 := h3 0 (by omega)
    have f1 := h3 1 (by omega)
    have f2 := h3 2 (by omega)
    have f3 := h3 3 (by omega)
    simp only [Nat.sub_zero, Nat.mul_zero, Nat.pow_zero, Nat.div_one, Nat.reduceSub, Nat.reduceMul, Nat.reducePow] at f0 f1 f2 f3
    match j with
    | 0 => exact f3
    | 1 => exact f2
    | 2 => exact f1
    | 3 => exact f0
    | j + 4 => rw [Array.getElem?_eq_none (by omega), Array.getElem?_eq_none (by rw [hV_size]; simp [bytesN])]
  subst ecs
  have hu : Tryd.prog.underlying 84 = some (.slice 5) := u_bytes
  have hsz : (Tryd.prog.info? 5).map (·.size) = some 1 := by kernel_rfl
  have hlen := oB_length x i
  have key := run_copy_row (P := Tryd.prog) wx 84 84 ty 5 (B + 6) (4 * i) (32 - 4 * i) (32 - 4 * i) ⟨g, 0, none⟩ 4 4 (hV (oB x i ++ List.replicate (32 - 4 * i) 0)) 37 (hV (bytesN (x i))).toList hu hsz h.o
    (by rw [show Nat.min 4 (32 - 4 * i) = 4 from Nat.min_eq_left (by omega)]; simp [hV, bytesN]) (fun j v hv => by
      rw [Array.getElem?_toList] at hv
      have := blk_cell h1 j hv
      by_cases h0 : j = 0
      · subst h0; simpa [Addr.add] using this
      · simpa [Addr.add, h0] using this) (by simp [hV, bytesN, hlen]; omega) (fun v hv => by simp [hV] at hv; obtain ⟨n, _, rfl⟩ := hv; rfl)
  have e : ((hV (oB x i ++ List.replicate (32 - 4 * i) 0)).toList.take (4 * i) ++ (hV (bytesN (x i))).toList ++ (hV (oB x i ++ List.replicate (32 - 4 * i) 0)).toList.drop (4 * i + (hV (bytesN (x i))).toList.length)).toArray = hV (oB x (i + 1) ++ List.replicate (32 - 4 * (i + 1)) 0) := by
    apply Array.toList_inj.1
    have hl4 : (bytesN (x i)).length = 4 := rfl
    rw [oB_next]
    generalize bytesN (x i) = r at *
    generalize oB x i = l at *
    simp only [hV, List.length_map, hl4, ← List.map_take, ← List.map_drop, ← List.map_append]
    refine congrArg (List.map _) ?_
    rw [List.take_append_of_le_length (by omega), List.take_of_length_le (by omega), List.drop_append, List.drop_eq_nil_of_le (by omega), List.drop_replicate, hlen]
    simp
    omega
  rw [e] at key
  have hr := setRow_heap wx (B + 6) _ (hV (oB x (i + 1) ++ List.replicate (32 - 4 * (i + 1)) 0)) _ _ h.o
  have hc : ∀ k, k ≠ B + 6 → (wx.setRow (B + 6) (hV (oB x (i + 1) ++ List.replicate (32 - 4 * (i + 1)) 0))).heap[k]? = wx.heap[k]? := fun k hk => setRow_other wx (B + 6) k _ hk
  refine ⟨_, key.trans (by simp [hV, bytesN, goInt]), ⟨(hc _ (by omega)).trans h.c, (hc _ (by omega)).trans h.s, (hc _ (by omega)).trans h.v, hr, h.chg.setRow (.inr (by rw [h.B0]; omega)) _, h.B0⟩⟩
end Go.Proofs.YtnodjlgihhinpaaDoor

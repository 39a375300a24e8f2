/- The hash: the walk's rules on its wide values; cut. -/
import Derived.Test.YtnodjlgihhinpaaDoorHaB
import Derived.Test.YtnodjlgihhinpaaDoorHashEq
import Derived.Lib.SliceRun
namespace Go.Proofs.YtnodjlgihhinpaaDoor
open Go.RowKit Go.Lib
set_option linter.unusedVariables false
set_option linter.unusedSimpArgs false

/-- Bytes, words as cells. -/
def hV (l : List Nat) : Array Value := (l.map fun (n : Nat) => Value.int .u8 (n : Int)).toArray
def wV (l : List Nat) : Array Value := (l.map fun (n : Nat) => Value.int .u32 (n : Int)).toArray
@[go_sem] theorem hV_size (l : List Nat) : (hV l).size = l.length := by simp [hV]
@[go_sem] theorem wV_size (l : List Nat) : (wV l).size = l.length := by simp [wV]
@[go_sem] theorem hV_one (l : List Nat) : one1 (hV l) = true := by
  unfold one1 hV
  rw [Array.all_eq_true_iff_forall_mem]
  intro v hv
  simp at hv
  obtain ⟨n, _, rfl⟩ := hv
  rfl
@[go_sem] theorem wV_one (l : List Nat) : one1 (wV l) = true := by
  unfold one1 wV
  rw [Array.all_eq_true_iff_forall_mem]
  intro v hv
  simp at hv
  obtain ⟨n, _, rfl⟩ := hv
  rfl
theorem hV_at (l : List Nat) (i : Nat) (h : i < l.length) : (hV l)[i]? = some (.int .u8 (l.getD i 0)) := by simp [hV, h]
theorem wV_at (l : List Nat) (i : Nat) (h : i < l.length) : (wV l)[i]? = some (.int .u32 (l.getD i 0)) := by simp [wV, h]
theorem hV_set (l : List Nat) (i x : Nat) : (hV l).setIfInBounds i (.int .u8 x) = hV (l.set i x) := by
  unfold hV
  apply Array.toList_inj.1
  simp [List.map_set]
theorem wV_set (l : List Nat) (i x : Nat) : (wV l).setIfInBounds i (.int .u32 x) = wV (l.set i x) := by
  unfold wV
  apply Array.toList_inj.1
  simp [List.map_set]
theorem hV_is (l : List Nat) (h : l.length = 32) (hb : ∀ x ∈ l, x < 256) : IsHash (hV l) := by
  refine ⟨by rw [hV_size, h], fun v hv => ?_⟩
  simp [hV] at hv
  obtain ⟨n, hn, rfl⟩ := hv
  exact ⟨n, rfl, by omega, by have := hb n hn; omega⟩
theorem IsHash.nats {x : Array Value} (h : IsHash x) : ∃ l : List Nat, x = hV l ∧ l.length = 32 ∧ ∀ n ∈ l, n < 256 := by
  obtain ⟨xs, rfl, hl⟩ := h.bytes
  refine ⟨xs.map (·.toNat), ?_, by simpa using hl, ?_⟩
  · unfold hV
    simp only [List.map_map]
    rfl
  · intro n hn
    obtain ⟨c, _, rfl⟩ := List.mem_map.1 hn
    exact c.toNat_lt
theorem bytes_all (l : List Nat) (hb : ∀ x ∈ l, x < 256) : ∀ j, l.getD j 0 < 256 := by
  intro j
  rw [List.getD_eq_getElem?_getD]
  rcases Nat.lt_or_ge j l.length with h | h
  · rw [List.getElem?_eq_getElem h]
    exact hb _ (List.getElem_mem h)
  · rw [List.getElem?_eq_none h]
    decide
theorem zero_hV : zeroHash = hV (List.replicate 32 0) := by kernel_rfl
def zero_a64b : Array Value := hV (List.replicate 64 0)
@[go_sem] theorem zero_a64b_size : zero_a64b.size = 64 := by simp [zero_a64b, hV]
@[go_sem] theorem zero_a64b_one : one1 zero_a64b = true := hV_one _
@[go_sem ↓] theorem hold_ld_a64b (x : Value) : Instr.loadAt 158 x = ldX 158 x := rfl
@[go_sem ↓] theorem hold_lv_a64b (a : Addr) : loadVar 158 a = lvX 158 a := rfl
@[go_sem ↓] theorem hold_st_a64b (x v : Value) : Instr.storeAt 158 x v = stX 158 x v := rfl
theorem u_a64b : Tryd.prog.underlying 158 = some (.array 64 5) := by kernel_rfl
@[go_sem] theorem ld_a64b (b o : Nat) (w : World) : (ldX 158 (.pointer (some ⟨b, o, none⟩))).run Tryd.prog w = ldR Tryd.prog 158 b o w (rng? w b o 64) := run_ldR _ _ 64 u_a64b rfl (by kernel_rfl) b o w
@[go_sem] theorem lv_a64b (b o : Nat) (w : World) : (lvX 158 ⟨b, o, none⟩).run Tryd.prog w = ldR Tryd.prog 158 b o w (rng? w b o 64) := run_lvR _ _ 64 u_a64b rfl (by kernel_rfl) b o w
@[go_sem] theorem st_a64b (b o : Nat) (cs : Array Value) (w : World) : (stX 158 (.pointer (some ⟨b, o, none⟩)) (.agg cs)).run Tryd.prog w = stR Tryd.prog 158 b o cs w (may w b o 64 && decide (cs.size = 64) && one1 cs) := run_stR _ 64 (by kernel_rfl) b o cs w
@[go_sem ↓] theorem zv_a64b (w : World) : (zeroValue 158).run Tryd.prog w = .ok (.agg zero_a64b) w := by kernel_rfl
def zero_a64w : Array Value := wV (List.replicate 64 0)
@[go_sem] theorem zero_a64w_size : zero_a64w.size = 64 := by simp [zero_a64w, wV]
@[go_sem] theorem zero_a64w_one : one1 zero_a64w = true := wV_one _
@[go_sem ↓] theorem hold_ld_a64w (x : Value) : Instr.loadAt 170 x = ldX 170 x := rfl
@[go_sem ↓] theorem hold_lv_a64w (a : Addr) : loadVar 170 a = lvX 170 a := rfl
@[go_sem ↓] theorem hold_st_a64w (x v : Value) : Instr.storeAt 170 x v = stX 170 x v := rfl
theorem u_a64w : Tryd.prog.underlying 170 = some (.array 64 74) := by kernel_rfl
@[go_sem] theorem ld_a64w (b o : Nat) (w : World) : (ldX 170 (.pointer (some ⟨b, o, none⟩))).run Tryd.prog w = ldR Tryd.prog 170 b o w (rng? w b o 64) := run_ldR _ _ 64 u_a64w rfl (by kernel_rfl) b o w
@[go_sem] theorem lv_a64w (b o : Nat) (w : World) : (lvX 170 ⟨b, o, none⟩).run Tryd.prog w = ldR Tryd.prog 170 b o w (rng? w b o 64) := run_lvR _ _ 64 u_a64w rfl (by kernel_rfl) b o w
@[go_sem] theorem st_a64w (b o : Nat) (cs : Array Value) (w : World) : (stX 170 (.pointer (some ⟨b, o, none⟩)) (.agg cs)).run Tryd.prog w = stR Tryd.prog 170 b o cs w (may w b o 64 && decide (cs.size = 64) && one1 cs) := run_stR _ 64 (by kernel_rfl) b o cs w
@[go_sem ↓] theorem zv_a64w (w : World) : (zeroValue 170).run Tryd.prog w = .ok (.agg zero_a64w) w := by kernel_rfl
def zero_a8w : Array Value := wV (List.replicate 8 0)
@[go_sem] theorem zero_a8w_size : zero_a8w.size = 8 := by simp [zero_a8w, wV]
@[go_sem] theorem zero_a8w_one : one1 zero_a8w = true := wV_one _
@[go_sem ↓] theorem hold_ld_a8w (x : Value) : Instr.loadAt 173 x = ldX 173 x := rfl
@[go_sem ↓] theorem hold_lv_a8w (a : Addr) : loadVar 173 a = lvX 173 a := rfl
@[go_sem ↓] theorem hold_st_a8w (x v : Value) : Instr.storeAt 173 x v = stX 173 x v := rfl
theorem u_a8w : Tryd.prog.underlying 173 = some (.array 8 74) := by kernel_rfl
@[go_sem] theorem ld_a8w (b o : Nat) (w : World) : (ldX 173 (.pointer (some ⟨b, o, none⟩))).run Tryd.prog w = ldR Tryd.prog 173 b o w (rng? w b o 8) := run_ldR _ _ 8 u_a8w rfl (by kernel_rfl) b o w
@[go_sem] theorem lv_a8w (b o : Nat) (w : World) : (lvX 173 ⟨b, o, none⟩).run Tryd.prog w = ldR Tryd.prog 173 b o w (rng? w b o 8) := run_lvR _ _ 8 u_a8w rfl (by kernel_rfl) b o w
@[go_sem] theorem st_a8w (b o : Nat) (cs : Array Value) (w : World) : (stX 173 (.pointer (some ⟨b, o, none⟩)) (.agg cs)).run Tryd.prog w = stR Tryd.prog 173 b o cs w (may w b o 8 && decide (cs.size = 8) && one1 cs) := run_stR _ 8 (by kernel_rfl) b o cs w
@[go_sem ↓] theorem zv_a8w (w : World) : (zeroValue 173).run Tryd.prog w = .ok (.agg zero_a8w) w := by kernel_rfl
def clX (ts : Array TypeId) (ty : TypeId) (xs : Array Value) : Sem Value := Builtin.clear_ ts ty xs
@[go_sem ↓] theorem hold_cl (ts : Array TypeId) (ty : TypeId) (xs : Array Value) : Builtin.clear_ ts ty xs = clX ts ty xs := rfl

theorem cut_length (w : Int) (l : List Nat) (h : l.length = 32) : (cutN w l).length = 32 := by
  unfold cutN widthN
  simp
  omega
theorem cut_lt (w : Int) (l : List Nat) (hb : ∀ x ∈ l, x < 256) : ∀ x ∈ cutN w l, x < 256 := by
  intro x hx
  unfold cutN at hx
  rcases List.mem_append.1 hx with h | h
  · exact hb x (List.mem_of_mem_take h)
  · rw [List.eq_of_mem_replicate h]; decide
theorem clear_hash (w : World) (b k : Nat) (l : List Nat) (t : TypeId) (h : w.heap[b]? = some (.cells (hV l) t (0, 0))) (hl : l.length = 32) (hk : k < 32) (ty : TypeId) :
    (clX #[84] ty #[.slice (some ⟨b, k, none⟩) (32 - k) (32 - k)]).run Tryd.prog w = .ok (.tuple #[]) (setRng w b k (hV (List.replicate (32 - k) 0))) ∧ (setRng w b k (hV (List.replicate (32 - k) 0))).heap[b]? = some (.cells (hV (l.take k ++ List.replicate (l.length - k) 0)) t (0, 0)) := by
  constructor
  · have hz : ∀ w, (zeroValue 5).run Tryd.prog w = .ok (.int .u8 0) w := fun w => by kernel_rfl
    have := run_clear_slice (P := Tryd.prog) w 84 5 ty (.int .u8 0) u_bytes hz rfl rfl b k (32 - k) (32 - k) (by omega)
      (fun j hj => by rw [blk_cell h (k + j) (hV_at l (k + j) (by omega))]; rfl) (fun j hj => blk_frozen h _)
    unfold clX
    rw [this]
    simp [setRng, hV]
  · rw [setRng_heap h k _ (by rw [hV_size, hV_size, List.length_replicate]; omega)]
    congr 2
    apply Array.toList_inj.1
    simp [hV, hl, List.map_take]
    omega
theorem hash_rng {w : World} {b : Nat} {l : List Nat} {t : TypeId} (h : w.heap[b]? = some (.cells (hV l) t (0, 0))) (hl : l.length = 32) : rng? w b 0 32 = some (hV l) := rng?_row h (by rw [hV_size, hl])
def slX (t : TypeId) (x l : Value) : Sem Value := Instr.sliceAt t x (some l) none none
@[go_sem ↓] theorem hold_sl_Hash (x l : Value) : Instr.sliceAt 37 x (some l) none none = slX 37 x l := rfl
@[go_sem ↓] theorem hold_sl_a64b (x l : Value) : Instr.sliceAt 158 x (some l) none none = slX 158 x l := rfl
theorem slX_run (t : TypeId) (n : Nat) (hu : Tryd.prog.underlying t = some (.array n 5)) (b o k : Nat) (hk : k < n) (w : World) :
    (slX t (.pointer (some ⟨b, o, none⟩)) (.int .i64 k)).run Tryd.prog w = .ok (.slice (some ⟨b, o + k, none⟩) (n - k) (n - k)) w := by
  have hz : ∀ w, (sizeOf 5).run Tryd.prog w = .ok 1 w := fun w => by kernel_rfl
  have e : ¬ n = k := by omega
  have e1 : ¬ ((k : Int) > (n : Int)) := by omega
  have e2 : ¬ ((k : Int) < 0) := by omega
  unfold slX Instr.sliceAt
  simp [go_sem, run_underlying hu, Instr.sureAddr, Instr.sliceBounds, hz, e, e1, e2, Addr.add, Nat.le_of_lt hk]
theorem slX_end (t : TypeId) (n : Nat) (hu : Tryd.prog.underlying t = some (.array n 5)) (b o : Nat) (w : World) :
    (slX t (.pointer (some ⟨b, o, none⟩)) (.int .i64 n)).run Tryd.prog w = .ok (.slice (some ⟨b, o, none⟩) 0 0) w := by
  have hz : ∀ w, (sizeOf 5).run Tryd.prog w = .ok 1 w := fun w => by kernel_rfl
  unfold slX Instr.sliceAt
  simp [go_sem, run_underlying hu, Instr.sureAddr, Instr.sliceBounds, hz]
theorem clear_none (ty : TypeId) (a : Option Addr) (w : World) : (clX #[84] ty #[.slice a 0 0]).run Tryd.prog w = .ok (.tuple #[]) w := by
  unfold clX Builtin.clear_
  cases a <;> simp [go_sem, run_underlying u_bytes]
theorem may_hash2 (w : World) (l : List Nat) : may ((w.alloc (.cells (hV l) 37)).alloc (.cells zeroHash 37)) (w.heap.size + 1) 0 32 = true := by
  have h := blk_new (w.alloc (.cells (hV l) 37)) (.cells zeroHash 37)
  rw [show (w.alloc (.cells (hV l) 37)).heap.size = w.heap.size + 1 from by simp] at h
  exact may_row 0 32 h (by rw [zeroHash_size]; omega)
theorem rng_hash2 (w : World) (o : Obj) (l : List Nat) (hl : l.length = 32) : rng? ((w.alloc o).alloc (.cells (hV l) 37)) (w.heap.size + 1) 0 32 = some (hV l) := by
  have h := blk_new (w.alloc o) (.cells (hV l) 37)
  rw [show (w.alloc o).heap.size = w.heap.size + 1 from by simp] at h
  exact hash_rng h hl
set_option maxRecDepth 100000 in
theorem cut_calls (w : World) (wd : Int) (l : List Nat) (hs : l.length = 32) :
    Calls Tryd.prog 94 #[.int .i64 wd, .agg (hV l)] w fun e w' => e = .returned (.agg (hV (cutN wd l))) ∧ Chg [] w w' := by
  have hk : (wd < 1 ∧ widthN wd = 1) ∨ (wd = 1 ∧ widthN wd = 1) ∨ (1 < wd ∧ wd < 32 ∧ (widthN wd : Int) = wd) ∨ (wd = 32 ∧ widthN wd = 32) ∨ (32 < wd ∧ widthN wd = 32) := by
    unfold widthN
    omega
  rcases hk with ⟨g1, g2⟩ | ⟨g1, g2⟩ | ⟨g1, g2, g3⟩ | ⟨g1, g2⟩ | ⟨g1, g2⟩
  · skip
    have hs1 : (slX 37 (.pointer (some ⟨w.heap.size, 0, none⟩)) (.int .i64 1)).run Tryd.prog ((w.alloc (.cells (hV l) 37)).alloc (.cells zeroHash 37)) = .ok (.slice (some ⟨w.heap.size, 1, none⟩) 31 31) ((w.alloc (.cells (hV l) 37)).alloc (.cells zeroHash 37)) := by
      have := slX_run 37 32 u_Hash w.heap.size 0 1 (by omega) ((w.alloc (.cells (hV l) 37)).alloc (.cells zeroHash 37))
      rw [Nat.zero_add] at this
      exact this
    obtain ⟨hc1, hc2⟩ := clear_hash ((w.alloc (.cells (hV l) 37)).alloc (.cells zeroHash 37)) w.heap.size 1 l 37 (blk_alloc (blk_new w _) _) hs (by omega) 0
    have E : cutN wd l = l.take 1 ++ List.replicate (l.length - 1) 0 := by
      unfold cutN
      rw [g2]
    have hc3 := hash_rng hc2 (by simp [hs] <;> omega)
    rw [← E] at hc3
    have hm1 := may_hash2 w l
    have hm2 := may_setRng ((w.alloc (.cells (hV l) 37)).alloc (.cells zeroHash 37)) (w.heap.size + 1) 0 32 w.heap.size 1 (hV (List.replicate 31 0)) hm1
    have hch : Chg [] w (setRng ((w.alloc (.cells (hV l) 37)).alloc (.cells zeroHash 37)) w.heap.size 1 (hV (List.replicate 31 0))) := (((Chg.refl _ _).alloc _).alloc _).setRng (.inr (Nat.le_refl _)) _ _
    have hlen := cut_length wd l hs
    clear hm1 hc2 E
    generalize setRng ((w.alloc (.cells (hV l) 37)).alloc (.cells zeroHash 37)) w.heap.size 1 (hV (List.replicate 31 0)) = w2 at *
    have hlen2 : (hV (cutN wd l)).size = 32 := by rw [hV_size, hlen]
    go_enter Tryd.func94, Tryd.ntmps94
    go_wp2
    refine bodyPost_ret (res_Hash1 rfl _ _ rfl (rng?_setRng_same _ _ _ _ _ hm2 (by rw [hV_size]; exact hlen))) rfl ⟨rfl, ?_⟩
    exact hch.setRng (.inr (by simp)) _ _
  · skip
    subst g1
    have hs1 : (slX 37 (.pointer (some ⟨w.heap.size, 0, none⟩)) (.int .i64 1)).run Tryd.prog ((w.alloc (.cells (hV l) 37)).alloc (.cells zeroHash 37)) = .ok (.slice (some ⟨w.heap.size, 1, none⟩) 31 31) ((w.alloc (.cells (hV l) 37)).alloc (.cells zeroHash 37)) := by
      have := slX_run 37 32 u_Hash w.heap.size 0 1 (by omega) ((w.alloc (.cells (hV l) 37)).alloc (.cells zeroHash 37))
      rw [Nat.zero_add] at this
      exact this
    obtain ⟨hc1, hc2⟩ := clear_hash ((w.alloc (.cells (hV l) 37)).alloc (.cells zeroHash 37)) w.heap.size 1 l 37 (blk_alloc (blk_new w _) _) hs (by omega) 0
    have E : cutN 1 l = l.take 1 ++ List.replicate (l.length - 1) 0 := by
      unfold cutN
      rw [g2]
    have hc3 := hash_rng hc2 (by simp [hs] <;> omega)
    rw [← E] at hc3
    have hm1 := may_hash2 w l
    have hm2 := may_setRng ((w.alloc (.cells (hV l) 37)).alloc (.cells zeroHash 37)) (w.heap.size + 1) 0 32 w.heap.size 1 (hV (List.replicate 31 0)) hm1
    have hch : Chg [] w (setRng ((w.alloc (.cells (hV l) 37)).alloc (.cells zeroHash 37)) w.heap.size 1 (hV (List.replicate 31 0))) := (((Chg.refl _ _).alloc _).alloc _).setRng (.inr (Nat.le_refl _)) _ _
    have hlen := cut_length 1 l hs
    clear hm1 hc2 E
    generalize setRng ((w.alloc (.cells (hV l) 37)).alloc (.cells zeroHash 37)) w.heap.size 1 (hV (List.replicate 31 0)) = w2 at *
    have hlen2 : (hV (cutN 1 l)).size = 32 := by rw [hV_size, hlen]
    go_enter Tryd.func94, Tryd.ntmps94
    go_wp2
    refine bodyPost_ret (res_Hash1 rfl _ _ rfl (rng?_setRng_same _ _ _ _ _ hm2 (by rw [hV_size]; exact hlen))) rfl ⟨rfl, ?_⟩
    exact hch.setRng (.inr (by simp)) _ _
  · obtain ⟨k, rfl⟩ : ∃ k : Nat, wd = k := ⟨wd.toNat, by omega⟩
    have hk32 : k < 32 := by omega
    have g2 : widthN (k : Int) = k := by omega
    have hs1 : (slX 37 (.pointer (some ⟨w.heap.size, 0, none⟩)) (.int .i64 k)).run Tryd.prog ((w.alloc (.cells (hV l) 37)).alloc (.cells zeroHash 37)) = .ok (.slice (some ⟨w.heap.size, k, none⟩) (32 - k) (32 - k)) ((w.alloc (.cells (hV l) 37)).alloc (.cells zeroHash 37)) := by
      have := slX_run 37 32 u_Hash w.heap.size 0 k (by omega) ((w.alloc (.cells (hV l) 37)).alloc (.cells zeroHash 37))
      rw [Nat.zero_add] at this
      exact this
    obtain ⟨hc1, hc2⟩ := clear_hash ((w.alloc (.cells (hV l) 37)).alloc (.cells zeroHash 37)) w.heap.size k l 37 (blk_alloc (blk_new w _) _) hs (by omega) 0
    have E : cutN (k : Int) l = l.take k ++ List.replicate (l.length - k) 0 := by
      unfold cutN
      rw [g2]
    have hc3 := hash_rng hc2 (by simp [hs] <;> omega)
    rw [← E] at hc3
    have hm1 := may_hash2 w l
    have hm2 := may_setRng ((w.alloc (.cells (hV l) 37)).alloc (.cells zeroHash 37)) (w.heap.size + 1) 0 32 w.heap.size k (hV (List.replicate (32 - k) 0)) hm1
    have hch : Chg [] w (setRng ((w.alloc (.cells (hV l) 37)).alloc (.cells zeroHash 37)) w.heap.size k (hV (List.replicate (32 - k) 0))) := (((Chg.refl _ _).alloc _).alloc _).setRng (.inr (Nat.le_refl _)) _ _
    have hlen := cut_length (k : Int) l hs
    clear hm1 hc2 E
    generalize setRng ((w.alloc (.cells (hV l) 37)).alloc (.cells zeroHash 37)) w.heap.size k (hV (List.replicate (32 - k) 0)) = w2 at *
    have hlen2 : (hV (cutN (k : Int) l)).size = 32 := by rw [hV_size, hlen]
    have d1 : decide ((k : Int) < 1) = false := decide_eq_false (by omega)
    have d2 : decide ((k : Int) < 32) = true := decide_eq_true (by omega)
    go_enter Tryd.func94, Tryd.ntmps94
    go_wp2
    refine bodyPost_ret (res_Hash1 rfl _ _ rfl (rng?_setRng_same _ _ _ _ _ hm2 (by rw [hV_size]; exact hlen))) rfl ⟨rfl, ?_⟩
    exact hch.setRng (.inr (by simp)) _ _
  · subst g1
    have hm1 := may_hash2 w l
    have hs1 : (slX 37 (.pointer (some ⟨w.heap.size, 0, none⟩)) (.int .i64 32)).run Tryd.prog ((w.alloc (.cells (hV l) 37)).alloc (.cells zeroHash 37)) = .ok (.slice (some ⟨w.heap.size, 0, none⟩) 0 0) ((w.alloc (.cells (hV l) 37)).alloc (.cells zeroHash 37)) :=
      slX_end 37 32 u_Hash w.heap.size 0 ((w.alloc (.cells (hV l) 37)).alloc (.cells zeroHash 37))
    have hc1 := clear_none 0 (some ⟨w.heap.size, 0, none⟩) ((w.alloc (.cells (hV l) 37)).alloc (.cells zeroHash 37))
    have E : cutN 32 l = l := by
      unfold cutN
      rw [g2, List.take_of_length_le (by omega), hs]
      simp
    rw [E]
    go_enter Tryd.func94, Tryd.ntmps94
    go_wp2
    refine bodyPost_ret (res_Hash1 rfl _ _ rfl (rng_hash2 w _ l hs)) rfl ⟨rfl, ?_⟩
    exact ((Chg.refl _ _).alloc _).alloc _
  · skip
    have hm1 := may_hash2 w l
    have hs1 : (slX 37 (.pointer (some ⟨w.heap.size, 0, none⟩)) (.int .i64 32)).run Tryd.prog ((w.alloc (.cells (hV l) 37)).alloc (.cells zeroHash 37)) = .ok (.slice (some ⟨w.heap.size, 0, none⟩) 0 0) ((w.alloc (.cells (hV l) 37)).alloc (.cells zeroHash 37)) :=
      slX_end 37 32 u_Hash w.heap.size 0 ((w.alloc (.cells (hV l) 37)).alloc (.cells zeroHash 37))
    have hc1 := clear_none 0 (some ⟨w.heap.size, 0, none⟩) ((w.alloc (.cells (hV l) 37)).alloc (.cells zeroHash 37))
    have E : cutN wd l = l := by
      unfold cutN
      rw [g2, List.take_of_length_le (by omega), hs]
      simp
    rw [E]
    go_enter Tryd.func94, Tryd.ntmps94
    go_wp2
    refine bodyPost_ret (res_Hash1 rfl _ _ rfl (rng_hash2 w _ l hs)) rfl ⟨rfl, ?_⟩
    exact ((Chg.refl _ _).alloc _).alloc _
end Go.Proofs.YtnodjlgihhinpaaDoor

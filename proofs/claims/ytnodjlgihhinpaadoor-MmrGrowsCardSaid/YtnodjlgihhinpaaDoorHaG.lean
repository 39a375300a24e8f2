/- The hash: a new hasher, its copy, the text's tail. -/
import Derived.Test.YtnodjlgihhinpaaDoorHaE
import Derived.Test.YtnodjlgihhinpaaDoorBy
namespace Go.Proofs.YtnodjlgihhinpaaDoor
open Go.RowKit
set_option linter.unusedVariables false
set_option linter.unusedSimpArgs false

theorem HIs.first {w : World} (h : HIs w) : rng? w 0 0 32 = some (hV firstN) := by
  refine rng?_mk (by rw [hV_size]; rfl) fun j hj => ?_
  have hj' : j < 32 := by rw [hV_size] at hj; exact hj
  rw [← Array.getElem?_eq_getElem hj, hV_at _ _ (by exact hj'), Nat.zero_add]
  exact h.f j hj'
/-! A hasher as a value. -/
@[go_sem ↓] theorem hold_ld_Hasher (x : Value) : Instr.loadAt 160 x = ldX 160 x := rfl
@[go_sem ↓] theorem hold_st_Hasher (x v : Value) : Instr.storeAt 160 x v = stX 160 x v := rfl
@[go_sem ↓] theorem hold_bd_Hasher (ps : Array (Nat × Value)) : Instr.build 160 ps = bdX 160 ps := rfl
theorem u_Hasher : Tryd.prog.underlying 160 = some (.struct (Tryd.prog.fieldsOf 160)) := by kernel_rfl
@[go_sem] theorem ld_Hasher (b o : Nat) (w : World) : (ldX 160 (.pointer (some ⟨b, o, none⟩))).run Tryd.prog w = ldR Tryd.prog 160 b o w (rng? w b o 98) := run_ldR _ _ 98 u_Hasher rfl (by kernel_rfl) b o w
@[go_sem] theorem st_Hasher (b o : Nat) (cs : Array Value) (w : World) : (stX 160 (.pointer (some ⟨b, o, none⟩)) (.agg cs)).run Tryd.prog w = stR Tryd.prog 160 b o cs w (may w b o 98 && decide (cs.size = 98) && one1 cs) := run_stR _ 98 (by kernel_rfl) b o cs w
def zeroHasher : Array Value := haC 0 ⟨List.replicate 32 0, List.replicate 64 0, 0⟩
@[go_sem ↓] theorem zv_Hasher (w : World) : (zeroValue 160).run Tryd.prog w = .ok (.agg zeroHasher) w := by kernel_rfl
@[go_sem] theorem zeroHasher_size : zeroHasher.size = 98 := by simp [zeroHasher, haC]
theorem places_Hasher (w : World) : ((Tryd.prog.fieldsOf 160).mapM fun (f : Field) => do pure (f.offset, ← sizeOf f.type)).run Tryd.prog w = .ok #[(0, 1), (1, 32), (33, 64), (97, 1)] w := by kernel_rfl
theorem bd_Hasher (wd : Int) (st : List Nat) (hst : st.length = 32) (w : World) : (bdX 160 #[(0, .int .i64 wd), (1, .agg (hV st))]).run Tryd.prog w = .ok (.agg (haC wd ⟨st, List.replicate 64 0, 0⟩)) w := by
  unfold bdX Instr.build
  simp only [Sem.run_bind, zv_Hasher, run_underlying u_Hasher, Result.andThen_ok, places_Hasher]
  have hz := zeroHasher_size
  simp only [Value.cells]
  rw [fill_part _ _ 0 0 1 (.int .i64 wd) _ rfl rfl (by omega)]
  have e0 : (zeroHasher.toList.take 0 ++ (Value.int .i64 wd).cells.toList ++ zeroHasher.toList.drop (0 + 1)).toArray = haC wd ⟨List.replicate 32 0, List.replicate 64 0, 0⟩ := rfl
  rw [e0]
  have hs2 : (haC wd ⟨List.replicate 32 0, List.replicate 64 0, 0⟩).size = 98 := by simp [haC]
  rw [fill_part _ _ 1 1 32 (.agg (hV st)) _ rfl (by simpa [Value.cells] using (hV_size st).trans hst) (by omega)]
  simp only [Instr.fill, Sem.run_pure, Result.ok.injEq, and_true, Value.agg.injEq]
  apply Array.toList_inj.1
  have hd : List.drop (1 + 32) (haC wd ⟨List.replicate 32 0, List.replicate 64 0, 0⟩).toList = (List.replicate 64 0).map (fun (n : Nat) => Value.int .u8 (n : Int)) ++ [Value.int .u64 ((0 : Nat) : Int)] := rfl
  have ht : List.take 1 (haC wd ⟨List.replicate 32 0, List.replicate 64 0, 0⟩).toList = [Value.int .i64 wd] := rfl
  rw [hd, ht]
  simp [haC, hV, Value.cells]
theorem haC_one (wd : Int) (h : HS) : one1 (haC wd h) = true := by
  unfold one1 haC
  rw [Array.all_eq_true_iff_forall_mem]
  intro v hv
  simp at hv
  rcases hv with rfl | ⟨n, _, rfl⟩ | ⟨n, _, rfl⟩ | rfl <;> rfl

def NewHP (w : World) (wd : Int) (e : Ending) (w' : World) : Prop := ∃ b, e = .returned (.pointer (some ⟨b, 0, none⟩)) ∧ w.heap.size ≤ b ∧ HaIs w' b wd ⟨cutN wd firstN, List.replicate 64 0, 0⟩ ∧ Chg [] w w'
theorem start_ok (wd : Int) : (HS.mk (cutN wd firstN) (List.replicate 64 0) 0).ok :=
  ⟨⟨cut_length _ _ rfl, cut_lt _ _ (by decide)⟩, ⟨by simp, fun x hx => by rw [List.eq_of_mem_replicate hx]; decide⟩⟩
set_option maxRecDepth 100000 in
theorem newh_calls (w : World) (wd : Int) (hk : HIs w) : Calls Tryd.prog 75 #[.int .i64 wd] w (NewHP w wd) := by
  have hf := hk.first
  have hct := cut_calls w wd firstN rfl
  have hbd := fun W => bd_Hasher wd (cutN wd firstN) (cut_length _ _ rfl) W
  have HO := Lib.hid (start_ok wd)
  clear hk
  generalize hst : cutN wd firstN = st at *
  generalize hzs : List.replicate 64 0 = zs at *
  have HE : Shut (cutN wd firstN = st ∧ List.replicate 64 0 = zs) := ⟨hst, hzs⟩
  clear hst hzs
  go_enter Tryd.func75, Tryd.ntmps75
  go_wp2_with (go_at_call 94; refine hct.mono ?_; rintro e w1 ⟨rfl, hc⟩)
  go_ret
  refine ⟨_, rfl, hc.size, ?_, hc.alloc _⟩
  rw [HE.out.1, HE.out.2]
  exact ⟨blk_new w1 _, HO.out⟩
def CloneP (w : World) (wd : Int) (h : HS) (e : Ending) (w' : World) : Prop := ∃ b, e = .returned (.pointer (some ⟨b, 0, none⟩)) ∧ w.heap.size ≤ b ∧ HaIs w' b wd h ∧ Chg [] w w'
theorem HaIs.rngAll {w : World} {b : Nat} {wd : Int} {h : HS} (hh : HaIs w b wd h) : rng? w b 0 98 = some (haC wd h) := rng?_row hh.mem (haC_size wd hh.ok)
set_option maxRecDepth 100000 in
theorem clone_calls (w : World) (b : Nat) (wd : Int) (h : HS) (hh : HaIs w b wd h) : Calls Tryd.prog 96 #[.pointer (some ⟨b, 0, none⟩)] w (CloneP w wd h) := by
  have hr := hh.rngAll
  have hb := blk_lt hh.mem
  have hs := haC_size wd hh.ok
  have h1 := haC_one wd h
  have HO := Lib.hid hh.ok
  have hfin : ∀ w : World, HaIs (w.alloc (.cells (haC wd h) 160)) w.heap.size wd h := fun w => ⟨blk_new w _, HO.out⟩
  have HF := Lib.hid hfin
  clear hh hfin
  generalize haC wd h = cs at *
  go_enter Tryd.func96, Tryd.ntmps96
  go_wp2
  go_ret
  exact ⟨_, rfl, Nat.le_refl _, HF.out w, (Chg.refl _ _).alloc _⟩

/-! The tail of a text. -/
def bigN (x n : Nat) : List Nat := (List.range n).map fun j => x / 2 ^ (8 * (n - 1 - j)) % 256
theorem BigIs.cells {w : World} {b n x : Nat} (h : BigIs w b n x n) : w.heap[b]? = some (.cells (hV (bigN x n)) 5 (0, 0)) := by
  obtain ⟨cs, h1, h2, h3⟩ := h.ex
  rw [h1]
  congr 2
  apply Array.ext_getElem?
  intro j
  by_cases hj : j < n
  · have := h3 (n - 1 - j) (by omega)
    rw [show n - 1 - (n - 1 - j) = j from by omega] at this
    rw [this, hV_at _ _ (by simp [bigN, hj]), List.getD_eq_getElem?_getD]
    simp [bigN, hj]
  · rw [Array.getElem?_eq_none (by omega), Array.getElem?_eq_none (by rw [hV_size]; simp [bigN]; omega)]
theorem bigN_length (x n : Nat) : (bigN x n).length = n := by simp [bigN]
theorem bigN_lt (x n : Nat) : ∀ y ∈ bigN x n, y < 256 := by
  intro y hy
  unfold bigN at hy
  obtain ⟨j, _, rfl⟩ := List.mem_map.1 hy
  exact Nat.mod_lt _ (by decide)
def padN (n : Nat) : Nat := (119 - n % 64) % 64
def tailN (n : Nat) : List Nat := 128 :: List.replicate (padN n) 0 ++ bigN (8 * n) 8
theorem tailN_lt (n : Nat) : ∀ x ∈ tailN n, x < 256 := by
  intro x hx
  unfold tailN at hx
  simp only [List.cons_append, List.mem_cons, List.mem_append] at hx
  rcases hx with rfl | hx | hx
  · decide
  · rw [List.eq_of_mem_replicate hx]; decide
  · exact bigN_lt _ _ x hx
theorem make_bytes_u (j : Nat) (hj : j ≤ 100000) (w : World) : (Instr.makeSlice 84 (.int .u64 j) (.int .u64 j)).run Tryd.prog w = .ok (.slice (some ⟨w.heap.size, 0, none⟩) j j) (w.alloc (.cells (madeCells #[.int .u8 0] j) 5)) := by
  obtain ⟨i, hi, hz, hs, hb⟩ := infoOfB i_u8
  have := run_make (P := Tryd.prog) w 84 5 i _ u_bytes hi hz .u64 .u64 j j (by omega) (by omega) (by rw [hb]; omega) (by omega)
  rw [hs, Nat.mul_one] at this
  exact this
theorem made_zero (n : Nat) : madeCells #[.int .u8 0] n = hV (List.replicate n 0) := by
  apply Array.ext_getElem?
  intro j
  by_cases hj : j < n
  · rw [hV_at _ _ (by simpa using hj)]
    simp [madeCells, hj, Nat.mod_one]
  · rw [Array.getElem?_eq_none (by rw [size_madeCells]; omega), Array.getElem?_eq_none (by rw [hV_size]; simp; omega)]
def TailP (w : World) (n : Nat) (e : Ending) (w' : World) : Prop := ∃ v, e = .returned v ∧ BsIs w' v (tailN n) ∧ (∀ k, k < w.heap.size → OffB v k) ∧ Chg [] w w'
set_option maxRecDepth 100000 in
theorem tail_calls (w : World) (n : Nat) (hn : n < 2305843009213693952) : Calls Tryd.prog 97 #[.int .u64 n] w (TailP w n) := by
  have hp : padN n < 64 := Nat.mod_lt _ (by decide)
  have hmk := make_bytes_u (1 + padN n) (by omega)
  rw [made_zero] at hmk
  have e1 : ((1 + padN n : Nat) : Int) = 1 + (119 - (n : Int)) % 64 := by unfold padN; omega
  rw [e1] at hmk
  have hbig := fun W => big_calls W (8 * n) 8 (.inr rfl) (by omega)
  rw [show ((8 * n : Nat) : Int) = 8 * (n : Int) from by omega] at hbig
  clear e1
  have hset : (hV (List.replicate (1 + padN n) 0)).setIfInBounds 0 (.int .u8 128) = hV (128 :: List.replicate (padN n) 0) := by
    have := hV_set (List.replicate (1 + padN n) 0) 0 128
    rw [show ((128 : Nat) : Int) = 128 from rfl] at this
    rw [this, Nat.add_comm, List.replicate_succ, List.set_cons_zero]
  have h0 : (hV (List.replicate (1 + padN n) 0))[0]? = some (.int .u8 0) := by
    rw [hV_at _ _ (by rw [List.length_replicate]; omega), Nat.add_comm, List.replicate_succ]
    rfl
  have hsz : (hV (List.replicate (1 + padN n) 0)).size = 1 + padN n := by rw [hV_size, List.length_replicate]
  have hlt : 0 < (hV (List.replicate (1 + padN n) 0)).size := by omega
  have HSET := Lib.hid hset
  have HSZ := Lib.hid hsz
  clear hset hsz
  generalize hV (List.replicate (1 + padN n) 0) = cs0 at *
  go_enter Tryd.func97, Tryd.ntmps97
  go_upto_region 4 with (go_at_call 85; refine (hbig _).mono ?_; rintro e w1 ⟨rfl, hB, hc⟩)
  rw [HSET.out] at hc
  have hs1 : (hV (128 :: List.replicate (padN n) 0)).size = (128 :: List.replicate (padN n) 0).length * 1 := by rw [hV_size, Nat.mul_one]
  have hO : BOwn w1 w.heap.size (.slice (some ⟨w.heap.size, 0, none⟩) (1 + padN n) (1 + padN n)) (128 :: List.replicate (padN n) 0) := by
    have := own_new w w.heap.size 5 1 (1 + padN n) (hV (128 :: List.replicate (padN n) 0)) (Nat.le_refl _) (by rw [hs1, List.length_cons, List.length_replicate]; omega) (by unfold maxLen; omega)
    have := own_chg this hc (by simp)
    unfold BOwn
    rw [List.length_cons, List.length_replicate, show padN n + 1 = 1 + padN n from by omega]
    exact this
  have hsz2 : (w.alloc (.cells (cs0.setIfInBounds 0 (.int .u8 128)) 5)).heap.size = w.heap.size + 1 := by simp
  rw [hsz2] at hB
  have hBs : BsIs w1 (.slice (some ⟨w.heap.size + 1, 0, none⟩) 8 8) (bigN (8 * n) 8) :=
    ⟨bigN_lt _ _, some ⟨w.heap.size + 1, 0, none⟩, 8, by rw [bigN_length], by rw [bigN_length]; omega, by unfold maxLen; omega, .inr ⟨w.heap.size + 1, 0, rfl, blk_lt hB.cells, fun i hi => by
      rw [Nat.zero_add]
      refine blk_cell hB.cells i ?_
      rw [hV_at _ _ hi, List.getD_eq_getElem?_getD, List.getElem?_eq_getElem hi]
      rfl⟩⟩
  obtain ⟨v2, w2, hrun, hO2, hc2, hob⟩ := hBs.append hO (by rw [bigN_length, List.length_cons, List.length_replicate]; omega) (by have := hc.size; rw [World.size_alloc] at this; omega) 84
  have HC : Chg [] w w2 := (((Chg.refl [] w).alloc _).nil_trans hc).trans hc2 (by rw [ob_some]; simp)
  have HO2 := Lib.hid hO2
  have hw1 : w.heap.size ≤ w1.heap.size := by have := hc.size; rw [World.size_alloc] at this; omega
  clear hB hc hs1 hO hsz2 hBs hO2 hc2 hob hbig hmk
  go_wp2_with (at_builtin; refine Lib.wpList_append_run _ rfl _ _ _ _ rfl _ _ rfl rfl _ _ hrun ?_)
  go_ret
  exact ⟨_, rfl, HO2.out.bs (tailN_lt n), fun k hk => HO2.out.off hk, HC⟩
end Go.Proofs.YtnodjlgihhinpaaDoor

/- The hash: bytes in memory; a hasher in memory; the plain text's walk. -/
import Derived.Test.YtnodjlgihhinpaaDoorHaDb
import Derived.Laws.Slices
namespace Go.Proofs.YtnodjlgihhinpaaDoor
open Go.RowKit
set_option linter.unusedVariables false
set_option linter.unusedSimpArgs false

/-- Bytes behind a slice. -/
def BsIs (w : World) (v : Value) (l : List Nat) : Prop :=
  (∀ x ∈ l, x < 256) ∧ ∃ a cap, v = .slice a l.length cap ∧ l.length ≤ cap ∧ cap ≤ maxLen ∧ (l = [] ∨ ∃ b o, a = some ⟨b, o, none⟩ ∧ b < w.heap.size ∧ ∀ i (hi : i < l.length), w.cell? ⟨b, o + i, none⟩ = some (.int .u8 l[i]))
/-- .. of which none lies in block h. -/
def OffB (v : Value) (h : Nat) : Prop := ∀ a n c, v = .slice (some a) n c → n ≠ 0 → a.block ≠ h
theorem BsIs.chg {w w' : World} {v : Value} {l : List Nat} {F : List Nat} (h : BsIs w v l) (hc : Chg F w w') (hF : ∀ k ∈ F, OffB v k) : BsIs w' v l := by
  obtain ⟨h1, a, cap, hv, h2, h3, h4⟩ := h
  refine ⟨h1, a, cap, hv, h2, h3, ?_⟩
  rcases h4 with h4 | ⟨b, o, ha, hb, hr⟩
  · exact .inl h4
  · by_cases hl : l = []
    · exact .inl hl
    · refine .inr ⟨b, o, ha, by have := hc.size; omega, fun i hi => ?_⟩
      rw [hc.cell (p := ⟨b, o + i, none⟩) hb (fun e => hF b e ⟨b, o, none⟩ l.length cap (by rw [hv, ha]) (by simpa using hl) rfl)]
      exact hr i hi
theorem BsIs.chg0 {w w' : World} {v : Value} {l : List Nat} (h : BsIs w v l) (hc : Chg [] w w') : BsIs w' v l := h.chg hc (by simp)
theorem BsIs.off {w : World} {v : Value} {l : List Nat} (h : BsIs w v l) {k : Nat} (hk : w.heap.size ≤ k) : OffB v k := by
  obtain ⟨h1, a, cap, hv, h2, h3, h4⟩ := h
  intro a' n c e hn
  rw [hv] at e
  simp at e
  obtain ⟨e1, e2, e3⟩ := e
  rcases h4 with h4 | ⟨b, o, ha, hb, hr⟩
  · subst h4; simp at e2; omega
  · rw [ha] at e1
    simp at e1
    rw [← e1]
    show b ≠ k
    omega
theorem BsIs.nil (w : World) : BsIs w (.slice none 0 0) [] := ⟨by simp, none, 0, rfl, Nat.le_refl _, Nat.zero_le _, .inl rfl⟩
/-- Cut off ahead. -/
theorem BsIs.drop {w : World} {v : Value} {l : List Nat} (h : BsIs w v l) (m : Nat) (hm : m ≤ l.length) :
    ∃ v', (Instr.sliceAt 84 v (some (.int .i64 m)) none none).run Tryd.prog w = .ok v' w ∧ BsIs w v' (l.drop m) ∧ ∀ k, OffB v k → OffB v' k := by
  obtain ⟨h1, a, cap, rfl, h2, h3, h4⟩ := h
  have hu : Tryd.prog.underlying 84 = some (.slice (Tryd.prog.elem 84)) := by kernel_rfl
  have hz : ∀ w, (sizeOf (Tryd.prog.elem 84)).run Tryd.prog w = .ok 1 w := fun w => by kernel_rfl
  unfold maxLen at h3
  have hb : (Instr.sliceBounds true l.length cap (some (.int .i64 m)) none none).run Tryd.prog w = .ok (m, l.length, cap) w := by
    have e2 : ¬ ((m : Int) < 0) := by omega
    simp [Instr.sliceBounds, Instr.sliceBound, asIntOf, hm]
  refine ⟨sliced a m l.length cap 1, ?_, ?_⟩
  · rw [run_sliceAt_slice (P := Tryd.prog) (w := w) 84 _ _ _ _ hu, run_slice_any (P := Tryd.prog) (w := w) 84 _ _ _ hu, hb]
    simp only [Result.andThen_ok, hz]
  · unfold sliced
    by_cases e : cap = m
    · have hl : l.length = m := by omega
      rw [if_pos e]
      refine ⟨⟨fun x hx => h1 x (List.mem_of_mem_drop hx), a, cap - m, by rw [List.length_drop], by rw [List.length_drop]; omega, by unfold maxLen; omega, .inl (by rw [List.drop_eq_nil_iff]; omega)⟩, ?_⟩
      intro k hk a' n c e2 hn
      simp at e2
      omega
    · rw [if_neg e]
      refine ⟨⟨fun x hx => h1 x (List.mem_of_mem_drop hx), a.map (·.add (m * 1)), cap - m, by rw [List.length_drop], by rw [List.length_drop]; omega, by unfold maxLen; omega, ?_⟩, ?_⟩
      · rcases h4 with h4 | ⟨b, o, ha, hb, hr⟩
        · exact .inl (by rw [h4]; simp)
        · refine .inr ⟨b, o + m, by rw [ha]; by_cases hm0 : m = 0 <;> simp [Addr.add, hm0], hb, fun i hi => ?_⟩
          rw [List.length_drop] at hi
          rw [Nat.add_assoc, hr (m + i) (by omega), List.getElem_drop]
      · intro k hk a' n c e2 hn
        simp at e2
        obtain ⟨⟨a0, ha0, e3⟩, e4, e5⟩ := e2
        have := hk a0 l.length cap (by rw [ha0]) (by omega)
        rw [← e3]
        by_cases hm0 : m = 0
        · subst hm0; simpa [Addr.add] using this
        · simpa [Addr.add, hm0] using this

/-! A hasher's plain numbers. -/
structure HS where
  st : List Nat
  rest : List Nat
  n : Nat
structure HS.ok (h : HS) : Prop where
  st : h.st.length = 32 ∧ ∀ x ∈ h.st, x < 256
  rest : h.rest.length = 64 ∧ ∀ x ∈ h.rest, x < 256
/-- One byte taken. -/
def absorb (wd : Int) (h : HS) (c : Nat) : HS :=
  if (h.n + 1) % 64 = 0 then ⟨compressN wd h.st (h.rest.set (h.n % 64) c), h.rest.set (h.n % 64) c, h.n + 1⟩ else ⟨h.st, h.rest.set (h.n % 64) c, h.n + 1⟩
def absorbs (wd : Int) (h : HS) (l : List Nat) : HS := l.foldl (absorb wd) h
theorem absorbs_app (wd : Int) (h : HS) (a b : List Nat) : absorbs wd h (a ++ b) = absorbs wd (absorbs wd h a) b := List.foldl_append
theorem absorb_n (wd : Int) (h : HS) (c : Nat) : (absorb wd h c).n = h.n + 1 := by unfold absorb; split <;> rfl
theorem absorbs_n (wd : Int) : ∀ (l : List Nat) (h : HS), (absorbs wd h l).n = h.n + l.length
  | [], h => rfl
  | c :: l, h => by
    have := absorbs_n wd l (absorb wd h c)
    rw [absorb_n] at this
    show (absorbs wd (absorb wd h c) l).n = _
    rw [this, List.length_cons]
    omega
theorem roundsN_length (m : List Nat) : ∀ n t v, v.length = 8 → (roundsN m n t v).length = 8
  | 0, _, v, h => h
  | n + 1, t, v, h => roundsN_length m n (t + 1) _ rfl
theorem compress_ok (wd : Int) (st blk : List Nat) : (compressN wd st blk).length = 32 ∧ ∀ x ∈ compressN wd st blk, x < 256 := by
  have e : compressN wd st blk = cutN wd (oB (fun i => (((List.range 8).map (wordN st)).getD i 0 + (roundsN (schedN 48 ((List.range 16).map (wordN blk))) 64 0 ((List.range 8).map (wordN st))).getD i 0) % 4294967296) 8) := rfl
  rw [e]
  exact ⟨cut_length _ _ (oB_length _ _), cut_lt _ _ (oB_lt _ _)⟩
theorem absorb_ok (wd : Int) {h : HS} (ho : h.ok) {c : Nat} (hc : c < 256) : (absorb wd h c).ok := by
  have hr : (h.rest.set (h.n % 64) c).length = 64 ∧ ∀ x ∈ h.rest.set (h.n % 64) c, x < 256 := by
    refine ⟨by simp [ho.rest.1], fun x hx => ?_⟩
    rcases List.mem_or_eq_of_mem_set hx with q | q
    · exact ho.rest.2 x q
    · rw [q]; exact hc
  unfold absorb
  split
  · exact ⟨compress_ok _ _ _, hr⟩
  · exact ⟨ho.st, hr⟩
theorem absorbs_ok (wd : Int) : ∀ (l : List Nat) (h : HS), h.ok → (∀ c ∈ l, c < 256) → (absorbs wd h l).ok
  | [], h, ho, _ => ho
  | c :: l, h, ho, hl => absorbs_ok wd l _ (absorb_ok wd ho (hl c (by simp))) (fun x hx => hl x (by simp [hx]))
/-- Bytes that fit into the rest. -/
def patch (r : List Nat) (at' : Nat) (c : List Nat) : List Nat := r.take at' ++ c ++ r.drop (at' + c.length)
theorem patch_length (r : List Nat) (at' : Nat) (c : List Nat) (h : at' + c.length ≤ r.length) : (patch r at' c).length = r.length := by
  unfold patch
  simp
  omega
theorem patch_cons (r : List Nat) (at' x : Nat) (c : List Nat) (h : at' + (c.length + 1) ≤ r.length) : patch r at' (x :: c) = patch (r.set at' x) (at' + 1) c := by
  unfold patch
  have h1 : (r.set at' x).take (at' + 1) = r.take at' ++ [x] := by
    rw [List.set_eq_take_append_cons_drop, if_pos (by omega), List.take_append, List.length_take, Nat.min_eq_left (by omega), List.take_of_length_le (by simp; omega)]
    simp
  have h2 : (r.set at' x).drop (at' + 1 + c.length) = r.drop (at' + (c.length + 1)) := by
    rw [List.drop_set_of_lt (by omega)]
    congr 1
    omega
  rw [h1, h2]
  simp
theorem absorbs_chunk (wd : Int) : ∀ (c : List Nat) (h : HS), h.rest.length = 64 → c ≠ [] → h.n % 64 + c.length ≤ 64 →
    absorbs wd h c = if (h.n + c.length) % 64 = 0 then ⟨compressN wd h.st (patch h.rest (h.n % 64) c), patch h.rest (h.n % 64) c, h.n + c.length⟩ else ⟨h.st, patch h.rest (h.n % 64) c, h.n + c.length⟩
  | [], h, _, h0, _ => absurd rfl h0
  | [x], h, hr, _, hl => by
    have e : patch h.rest (h.n % 64) [x] = h.rest.set (h.n % 64) x := by
      rw [patch_cons _ _ _ _ (by simp at hl; simp; omega)]
      simp [patch]
    rw [e]
    rfl
  | x :: y :: c, h, hr, _, hl => by
    simp only [List.length_cons] at hl
    have h1 : ¬ (h.n + 1) % 64 = 0 := by omega
    have e1 : absorb wd h x = ⟨h.st, h.rest.set (h.n % 64) x, h.n + 1⟩ := by unfold absorb; rw [if_neg h1]
    have ih := absorbs_chunk wd (y :: c) (absorb wd h x) (by rw [e1]; simp [hr]) (by simp) (by rw [e1]; simp only [List.length_cons]; omega)
    show absorbs wd (absorb wd h x) (y :: c) = _
    rw [ih, e1, patch_cons h.rest (h.n % 64) x (y :: c) (by simp only [List.length_cons]; omega)]
    simp only [List.length_cons]
    rw [show (h.n + 1) % 64 = h.n % 64 + 1 from by omega, show h.n + 1 + (c.length + 1) = h.n + (c.length + 1 + 1) from by omega]

/-! A hasher in memory. -/
def haC (wd : Int) (h : HS) : Array Value := (Value.int .i64 wd :: (h.st.map fun (n : Nat) => Value.int .u8 (n : Int)) ++ (h.rest.map fun (n : Nat) => Value.int .u8 (n : Int)) ++ [Value.int .u64 (h.n : Int)]).toArray
theorem haC_size (wd : Int) {h : HS} (ho : h.ok) : (haC wd h).size = 98 := by
  simp [haC, ho.st.1, ho.rest.1]
structure HaIs (w : World) (b : Nat) (wd : Int) (h : HS) : Prop where
  mem : w.heap[b]? = some (.cells (haC wd h) 160 (0, 0))
  ok : h.ok
theorem HaIs.chg {w w' : World} {b : Nat} {wd : Int} {h : HS} {F : List Nat} (hh : HaIs w b wd h) (hc : Chg F w w') (hb : b ∉ F) : HaIs w' b wd h := ⟨hc.at hh.mem hb, hh.ok⟩
theorem HaIs.cell0 {w : World} {b : Nat} {wd : Int} {h : HS} (hh : HaIs w b wd h) : w.cell? ⟨b, 0, none⟩ = some (.int .i64 wd) := blk_cell hh.mem 0 (by simp [haC])
theorem HaIs.cell97 {w : World} {b : Nat} {wd : Int} {h : HS} (hh : HaIs w b wd h) : w.cell? ⟨b, 97, none⟩ = some (.int .u64 h.n) :=
  blk_cell hh.mem 97 (by
    unfold haC
    rw [List.getElem?_toArray, List.getElem?_append_right (by simp [hh.ok.st.1, hh.ok.rest.1])]
    simp [hh.ok.st.1, hh.ok.rest.1])
theorem HaIs.rngSt {w : World} {b : Nat} {wd : Int} {h : HS} (hh : HaIs w b wd h) : rng? w b 1 32 = some (hV h.st) := by
  refine rng?_mk (by rw [hV_size, hh.ok.st.1]) fun j hj => ?_
  have hj' := hj
  rw [hV_size, hh.ok.st.1] at hj'
  refine blk_cell hh.mem (1 + j) ?_
  rw [← Array.getElem?_eq_getElem hj, hV_at _ _ (by rw [hh.ok.st.1]; exact hj')]
  clear hj
  unfold haC
  rw [List.getElem?_toArray, List.getElem?_append_left (by simp [hh.ok.st.1, hh.ok.rest.1]; omega), List.getElem?_append_left (by simp [hh.ok.st.1]; omega), Nat.add_comm, List.getElem?_cons_succ]
  simp [hh.ok.st.1, hj']
theorem HaIs.rngRest {w : World} {b : Nat} {wd : Int} {h : HS} (hh : HaIs w b wd h) : rng? w b 33 64 = some (hV h.rest) := by
  refine rng?_mk (by rw [hV_size, hh.ok.rest.1]) fun j hj => ?_
  have hj' := hj
  rw [hV_size, hh.ok.rest.1] at hj'
  refine blk_cell hh.mem (33 + j) ?_
  rw [← Array.getElem?_eq_getElem hj, hV_at _ _ (by rw [hh.ok.rest.1]; exact hj')]
  clear hj
  unfold haC
  rw [List.getElem?_toArray, List.getElem?_append_left (by simp [hh.ok.st.1, hh.ok.rest.1]; omega), List.getElem?_append_right (by simp [hh.ok.st.1])]
  simp [hh.ok.st.1, hh.ok.rest.1, hj']
theorem HaIs.may (w : World) {b : Nat} {wd : Int} {h : HS} (hh : HaIs w b wd h) : Proofs.YtnodjlgihhinpaaDoor.may w b 1 32 = true := may_row 1 32 hh.mem (by rw [haC_size wd hh.ok]; omega)
theorem HaIs.setN {w : World} {b : Nat} {wd : Int} {h : HS} (hh : HaIs w b wd h) (n : Nat) : HaIs (w.setCell ⟨b, 97, none⟩ (.int .u64 n)) b wd { h with n := n } := by
  refine ⟨?_, ⟨hh.ok.st, hh.ok.rest⟩⟩
  rw [blk_set hh.mem 97 _]
  congr 2
  apply Array.toList_inj.1
  unfold haC
  rw [Array.toList_setIfInBounds, List.set_append_right _ _ (by simp [hh.ok.st.1, hh.ok.rest.1])]
  simp [hh.ok.st.1, hh.ok.rest.1]
theorem HaIs.setSt {w : World} {b : Nat} {wd : Int} {h : HS} (hh : HaIs w b wd h) (st : List Nat) (h1 : st.length = 32) (h2 : ∀ x ∈ st, x < 256) : HaIs (setRng w b 1 (hV st)) b wd { h with st := st } := by
  refine ⟨?_, ⟨⟨h1, h2⟩, hh.ok.rest⟩⟩
  rw [setRng_heap hh.mem 1 (hV st) (by rw [haC_size wd hh.ok, hV_size]; omega)]
  congr 2
  unfold haC hV
  simp only [List.size_toArray, List.length_map]
  rw [h1]
  congr 1
  have hL : ((h.st.map fun (n : Nat) => Value.int .u8 (n : Int)) ++ (h.rest.map fun (n : Nat) => Value.int .u8 (n : Int)) ++ [Value.int .u64 (h.n : Int)]).drop 32 = (h.rest.map fun (n : Nat) => Value.int .u8 (n : Int)) ++ [Value.int .u64 (h.n : Int)] := by
    rw [List.append_assoc, List.drop_append, List.drop_eq_nil_of_le (by simp [hh.ok.st.1])]
    simp [hh.ok.st.1]
  have hL' : List.drop (1 + 32) (Value.int .i64 wd :: (h.st.map fun (n : Nat) => Value.int .u8 (n : Int)) ++ (h.rest.map fun (n : Nat) => Value.int .u8 (n : Int)) ++ [Value.int .u64 (h.n : Int)]) = _ := hL
  have hT : List.take 1 (Value.int .i64 wd :: (h.st.map fun (n : Nat) => Value.int .u8 (n : Int)) ++ (h.rest.map fun (n : Nat) => Value.int .u8 (n : Int)) ++ [Value.int .u64 (h.n : Int)]) = [Value.int .i64 wd] := rfl
  rw [hL', hT]
  simp
theorem HaIs.setRest {w : World} {b : Nat} {wd : Int} {h : HS} (hh : HaIs w b wd h) (at' : Nat) (c : List Nat) (hl : at' + c.length ≤ 64) (hc : ∀ x ∈ c, x < 256) :
    HaIs (w.setRow b ((haC wd h).toList.take (33 + at') ++ (hV c).toList ++ (haC wd h).toList.drop (33 + at' + (hV c).toList.length)).toArray) b wd { h with rest := patch h.rest at' c } := by
  have hp := patch_length h.rest at' c (by rw [hh.ok.rest.1]; exact hl)
  refine ⟨?_, ⟨hh.ok.st, ⟨by rw [hp, hh.ok.rest.1], fun x hx => ?_⟩⟩⟩
  · rw [setRow_heap w b _ _ _ _ hh.mem]
    congr 2
    unfold haC hV patch
    have e1 : (h.st.map fun (n : Nat) => Value.int .u8 (n : Int)).length = 32 := by simp [hh.ok.st.1]
    have e2 : (h.rest.map fun (n : Nat) => Value.int .u8 (n : Int)).length = 64 := by simp [hh.ok.rest.1]
    simp only [List.map_append, List.map_take, List.map_drop, List.length_map, List.toList_toArray]
    generalize (h.st.map fun (n : Nat) => Value.int .u8 (n : Int)) = s at *
    generalize (h.rest.map fun (n : Nat) => Value.int .u8 (n : Int)) = r at *
    generalize hcc : (c.map fun (n : Nat) => Value.int .u8 (n : Int)) = cc
    have hcl : cc.length = c.length := by rw [← hcc]; simp
    congr 1
    have hA : (Value.int .i64 wd :: s).length = 33 := by simp [e1]
    generalize (Value.int .i64 wd :: s) = A at *
    rw [List.append_assoc A r, List.take_append, List.take_of_length_le (by omega), hA, show 33 + at' - 33 = at' from by omega, List.take_append_of_le_length (by omega), List.drop_append, List.drop_eq_nil_of_le (by omega), hA, show 33 + at' + c.length - 33 = at' + c.length from by omega, List.drop_append_of_le_length (by omega)]
    simp
  · unfold patch at hx
    rcases List.mem_append.1 hx with q | q
    · rcases List.mem_append.1 q with q | q
      · exact hh.ok.rest.2 x (List.mem_of_mem_take q)
      · exact hc x q
    · exact hh.ok.rest.2 x (List.mem_of_mem_drop q)
/-- As many bytes as fit are copied into the rest. -/
theorem HaIs.copy {w : World} {b : Nat} {wd : Int} {h : HS} (hh : HaIs w b wd h) {v : Value} {l : List Nat} (hl : BsIs w v l) (h0 : l ≠ []) (at' : Nat) (ha : at' < 64) (m : Nat) (hm : m = min l.length (64 - at')) (ty : TypeId) :
    ∃ wy, (cpX #[84, 84] ty #[.slice (some ⟨b, 33 + at', none⟩) (64 - at') (64 - at'), v]).run Tryd.prog w = .ok (.int .i64 m) wy ∧ HaIs wy b wd { h with rest := patch h.rest at' (l.take m) } ∧ Chg [b] w wy := by
  obtain ⟨h1, a, cap, rfl, h2, h3, h4⟩ := hl
  rcases h4 with h4 | ⟨g, o, ha', hb, hr⟩
  · exact absurd h4 h0
  subst ha'
  have hu : Tryd.prog.underlying 84 = some (.slice 5) := u_bytes
  have hsz : (Tryd.prog.info? 5).map (·.size) = some 1 := by kernel_rfl
  have hml : (l.take m).length = m := by rw [List.length_take]; omega
  have key := run_copy_row (P := Tryd.prog) w 84 84 ty 5 b (33 + at') (64 - at') (64 - at') ⟨g, o, none⟩ l.length cap (haC wd h) 160 (hV (l.take m)).toList hu hsz hh.mem
    (by simp only [hV, List.length_map, List.toList_toArray] ; rw [hml, hm]) (fun j u hj => by
      unfold hV at hj
      rw [List.toList_toArray, List.getElem?_map] at hj
      obtain ⟨x, hx, rfl⟩ := Option.map_eq_some_iff.1 hj
      obtain ⟨hjl, hx2⟩ := List.getElem?_eq_some_iff.1 hx
      have hjm : j < l.length := by rw [hml] at hjl; omega
      have := hr j hjm
      rw [List.getElem_take] at hx2
      rw [← hx2]
      by_cases hz : j = 0
      · subst hz; simpa [Addr.add] using this
      · simpa [Addr.add, hz] using this)
    (by rw [haC_size wd hh.ok]; simp only [hV, List.toList_toArray, List.length_map, hml]; omega)
    (fun u hu => by
      unfold hV at hu
      rw [List.toList_toArray] at hu
      obtain ⟨n, _, rfl⟩ := List.mem_map.1 hu
      rfl)
  refine ⟨_, key.trans ?_, hh.setRest at' (l.take m) (by rw [hml]; omega) (fun x hx => h1 x (List.mem_of_mem_take hx)), (Chg.refl _ _).setRow (by simp) _⟩
  simp only [hV, List.toList_toArray, List.length_map, hml]
  rfl
end Go.Proofs.YtnodjlgihhinpaaDoor

/- Texts put into one by pack.py: HaF By HaG. -/
import Derived.Laws.Slices
import Derived.Lib.AppendZerosOnto
import Derived.Test.YtpklkefnmoaaaaaGreatDoorPkA
import Derived.Test.YtpklkefnmoaaaaaGreatDoorPkB
import Derived.Test.YtpklkefnmoaaaaaGreatDoorHaEp
/- The hash: bytes in memory; a hasher in memory; the plain text's walk. -/
namespace Go.Proofs.YtpklkefnmoaaaaaGreatDoor
open Go.RowKit
set_option linter.unusedVariables false
set_option linter.unusedSimpArgs false

/-- Bytes behind a slice. -/
def BsIs (w : World) (v : Value) (l : List Nat) : Prop :=
  (∀ x ∈ l, x < 256) ∧ ∃ a cap, v = .slice a l.length cap ∧ l.length ≤ cap ∧ cap ≤ maxLen ∧ (l = [] ∨ ∃ b o, a = some ⟨b, o, none⟩ ∧ b < w.heap.size ∧ ∀ i (hi : i < l.length), w.cell? ⟨b, o + i, none⟩ = some (.int .u8 l[i]))
/-- .. of which none lies in block h. -/
def OffB (v : Value) (h : Nat) : Prop := ∀ a n c, v = .slice (some a) n c → n ≠ 0 → a.block ≠ h
theorem BsIs.chg {w w' : World} {v : Value} {l : List Nat} {F : List Nat} (h : BsIs w v l) (hc : Chg F w w') (hF : ∀ k ∈ F, OffB v k) : BsIs w' v l := by
  obtain ⟨h1, a, cap, hv, h2, h3, h4⟩ := h
  refine ⟨h1, a, cap, hv, h2, h3, ?_⟩
  rcases h4 with h4 | ⟨b, o, ha, hb, hr⟩
  · exact .inl h4
  · by_cases hl : l = []
    · exact .inl hl
    · refine .inr ⟨b, o, ha, by have := hc.size; omega, fun i hi => ?_⟩
      rw [hc.cell (p := ⟨b, o + i, none⟩) hb (fun e => hF b e ⟨b, o, none⟩ l.length cap (by rw [hv, ha]) (by simpa using hl) rfl)]
      exact hr i hi
theorem BsIs.chg0 {w w' : World} {v : Value} {l : List Nat} (h : BsIs w v l) (hc : Chg [] w w') : BsIs w' v l := h.chg hc (by simp)
theorem BsIs.off {w : World} {v : Value} {l : List Nat} (h : BsIs w v l) {k : Nat} (hk : w.heap.size ≤ k) : OffB v k := by
  obtain ⟨h1, a, cap, hv, h2, h3, h4⟩ := h
  intro a' n c e hn
  rw [hv] at e
  simp at e
  obtain ⟨e1, e2, e3⟩ := e
  rcases h4 with h4 | ⟨b, o, ha, hb, hr⟩
  · subst h4; simp at e2; omega
  · rw [ha] at e1
    simp at e1
    rw [← e1]
    show b ≠ k
    omega
theorem BsIs.nil (w : World) : BsIs w (.slice none 0 0) [] := ⟨by simp, none, 0, rfl, Nat.le_refl _, Nat.zero_le _, .inl rfl⟩
/-- Cut off ahead. -/
theorem BsIs.drop {w : World} {v : Value} {l : List Nat} (h : BsIs w v l) (m : Nat) (hm : m ≤ l.length) :
    ∃ v', (Instr.sliceAt 37 v (some (.int .i64 m)) none none).run Tryz.prog w = .ok v' w ∧ BsIs w v' (l.drop m) ∧ ∀ k, OffB v k → OffB v' k := by
  obtain ⟨h1, a, cap, rfl, h2, h3, h4⟩ := h
  have hu : Tryz.prog.underlying 37 = some (.slice (Tryz.prog.elem 37)) := by kernel_rfl
  have hz : ∀ w, (sizeOf (Tryz.prog.elem 37)).run Tryz.prog w = .ok 1 w := fun w => by kernel_rfl
  unfold maxLen at h3
  have hb : (Instr.sliceBounds true l.length cap (some (.int .i64 m)) none none).run Tryz.prog w = .ok (m, l.length, cap) w := by
    have e2 : ¬ ((m : Int) < 0) := by omega
    simp [Instr.sliceBounds, Instr.sliceBound, asIntOf, hm]
  refine ⟨sliced a m l.length cap 1, ?_, ?_⟩
  · rw [run_sliceAt_slice (P := Tryz.prog) (w := w) 37 _ _ _ _ hu, run_slice_any (P := Tryz.prog) (w := w) 37 _ _ _ hu, hb]
    simp only [Result.andThen_ok, hz]
  · unfold sliced
    by_cases e : cap = m
    · have hl : l.length = m := by omega
      rw [if_pos e]
      refine ⟨⟨fun x hx => h1 x (List.mem_of_mem_drop hx), a, cap - m, by rw [List.length_drop], by rw [List.length_drop]; omega, by unfold maxLen; omega, .inl (by rw [List.drop_eq_nil_iff]; omega)⟩, ?_⟩
      intro k hk a' n c e2 hn
      simp at e2
      omega
    · rw [if_neg e]
      refine ⟨⟨fun x hx => h1 x (List.mem_of_mem_drop hx), a.map (·.add (m * 1)), cap - m, by rw [List.length_drop], by rw [List.length_drop]; omega, by unfold maxLen; omega, ?_⟩, ?_⟩
      · rcases h4 with h4 | ⟨b, o, ha, hb, hr⟩
        · exact .inl (by rw [h4]; simp)
        · refine .inr ⟨b, o + m, by rw [ha]; by_cases hm0 : m = 0 <;> simp [Addr.add, hm0], hb, fun i hi => ?_⟩
          rw [List.length_drop] at hi
          rw [Nat.add_assoc, hr (m + i) (by omega), List.getElem_drop]
      · intro k hk a' n c e2 hn
        simp at e2
        obtain ⟨⟨a0, ha0, e3⟩, e4, e5⟩ := e2
        have := hk a0 l.length cap (by rw [ha0]) (by omega)
        rw [← e3]
        by_cases hm0 : m = 0
        · subst hm0; simpa [Addr.add] using this
        · simpa [Addr.add, hm0] using this

/-! A hasher's plain numbers. -/
structure HS where
  st : List Nat
  rest : List Nat
  n : Nat
structure HS.ok (h : HS) : Prop where
  st : h.st.length = 32 ∧ ∀ x ∈ h.st, x < 256
  rest : h.rest.length = 64 ∧ ∀ x ∈ h.rest, x < 256
/-- One byte taken. -/
def absorb (wd : Int) (h : HS) (c : Nat) : HS :=
  if (h.n + 1) % 64 = 0 then ⟨compressN wd h.st (h.rest.set (h.n % 64) c), h.rest.set (h.n % 64) c, h.n + 1⟩ else ⟨h.st, h.rest.set (h.n % 64) c, h.n + 1⟩
def absorbs (wd : Int) (h : HS) (l : List Nat) : HS := l.foldl (absorb wd) h
theorem absorbs_app (wd : Int) (h : HS) (a b : List Nat) : absorbs wd h (a ++ b) = absorbs wd (absorbs wd h a) b := List.foldl_append
theorem absorb_n (wd : Int) (h : HS) (c : Nat) : (absorb wd h c).n = h.n + 1 := by unfold absorb; split <;> rfl
theorem absorbs_n (wd : Int) : ∀ (l : List Nat) (h : HS), (absorbs wd h l).n = h.n + l.length
  | [], h => rfl
  | c :: l, h => by
    have := absorbs_n wd l (absorb wd h c)
    rw [absorb_n] at this
    show (absorbs wd (absorb wd h c) l).n = _
    rw [this, List.length_cons]
    omega
theorem roundsN_length (m : List Nat) : ∀ n t v, v.length = 8 → (roundsN m n t v).length = 8
  | 0, _, v, h => h
  | n + 1, t, v, h => roundsN_length m n (t + 1) _ rfl
theorem compress_ok (wd : Int) (st blk : List Nat) : (compressN wd st blk).length = 32 ∧ ∀ x ∈ compressN wd st blk, x < 256 := by
  have e : compressN wd st blk = cutN wd (oB (fun i => (((List.range 8).map (wordN st)).getD i 0 + (roundsN (schedN 48 ((List.range 16).map (wordN blk))) 64 0 ((List.range 8).map (wordN st))).getD i 0) % 4294967296) 8) := rfl
  rw [e]
  exact ⟨cut_length _ _ (oB_length _ _), cut_lt _ _ (oB_lt _ _)⟩
theorem absorb_ok (wd : Int) {h : HS} (ho : h.ok) {c : Nat} (hc : c < 256) : (absorb wd h c).ok := by
  have hr : (h.rest.set (h.n % 64) c).length = 64 ∧ ∀ x ∈ h.rest.set (h.n % 64) c, x < 256 := by
    refine ⟨by simp [ho.rest.1], fun x hx => ?_⟩
    rcases List.mem_or_eq_of_mem_set hx with q | q
    · exact ho.rest.2 x q
    · rw [q]; exact hc
  unfold absorb
  split
  · exact ⟨compress_ok _ _ _, hr⟩
  · exact ⟨ho.st, hr⟩
theorem absorbs_ok (wd : Int) : ∀ (l : List Nat) (h : HS), h.ok → (∀ c ∈ l, c < 256) → (absorbs wd h l).ok
  | [], h, ho, _ => ho
  | c :: l, h, ho, hl => absorbs_ok wd l _ (absorb_ok wd ho (hl c (by simp))) (fun x hx => hl x (by simp [hx]))
/-- Bytes that fit into the rest. -/
def patch (r : List Nat) (at' : Nat) (c : List Nat) : List Nat := r.take at' ++ c ++ r.drop (at' + c.length)
theorem patch_length (r : List Nat) (at' : Nat) (c : List Nat) (h : at' + c.length ≤ r.length) : (patch r at' c).length = r.length := by
  unfold patch
  simp
  omega
theorem patch_cons (r : List Nat) (at' x : Nat) (c : List Nat) (h : at' + (c.length + 1) ≤ r.length) : patch r at' (x :: c) = patch (r.set at' x) (at' + 1) c := by
  unfold patch
  have h1 : (r.set at' x).take (at' + 1) = r.take at' ++ [x] := by
    rw [List.set_eq_take_append_cons_drop, if_pos (by omega), List.take_append, List.length_take, Nat.min_eq_left (by omega), List.take_of_length_le (by simp; omega)]
    simp
  have h2 : (r.set at' x).drop (at' + 1 + c.length) = r.drop (at' + (c.length + 1)) := by
    rw [List.drop_set_of_lt (by omega)]
    congr 1
    omega
  rw [h1, h2]
  simp
theorem absorbs_chunk (wd : Int) : ∀ (c : List Nat) (h : HS), h.rest.length = 64 → c ≠ [] → h.n % 64 + c.length ≤ 64 →
    absorbs wd h c = if (h.n + c.length) % 64 = 0 then ⟨compressN wd h.st (patch h.rest (h.n % 64) c), patch h.rest (h.n % 64) c, h.n + c.length⟩ else ⟨h.st, patch h.rest (h.n % 64) c, h.n + c.length⟩
  | [], h, _, h0, _ => absurd rfl h0
  | [x], h, hr, _, hl => by
    have e : patch h.rest (h.n % 64) [x] = h.rest.set (h.n % 64) x := by
      rw [patch_cons _ _ _ _ (by simp at hl; simp; omega)]
      simp [patch]
    rw [e]
    rfl
  | x :: y :: c, h, hr, _, hl => by
    simp only [List.length_cons] at hl
    have h1 : ¬ (h.n + 1) % 64 = 0 := by omega
    have e1 : absorb wd h x = ⟨h.st, h.rest.set (h.n % 64) x, h.n + 1⟩ := by unfold absorb; rw [if_neg h1]
    have ih := absorbs_chunk wd (y :: c) (absorb wd h x) (by rw [e1]; simp [hr]) (by simp) (by rw [e1]; simp only [List.length_cons]; omega)
    show absorbs wd (absorb wd h x) (y :: c) = _
    rw [ih, e1, patch_cons h.rest (h.n % 64) x (y :: c) (by simp only [List.length_cons]; omega)]
    simp only [List.length_cons]
    rw [show (h.n + 1) % 64 = h.n % 64 + 1 from by omega, show h.n + 1 + (c.length + 1) = h.n + (c.length + 1 + 1) from by omega]

/-! A hasher in memory. -/
def haC (wd : Int) (h : HS) : Array Value := (Value.int .i64 wd :: (h.st.map fun (n : Nat) => Value.int .u8 (n : Int)) ++ (h.rest.map fun (n : Nat) => Value.int .u8 (n : Int)) ++ [Value.int .u64 (h.n : Int)]).toArray
theorem haC_size (wd : Int) {h : HS} (ho : h.ok) : (haC wd h).size = 98 := by
  simp [haC, ho.st.1, ho.rest.1]
structure HaIs (w : World) (b : Nat) (wd : Int) (h : HS) : Prop where
  mem : w.heap[b]? = some (.cells (haC wd h) 262 (0, 0))
  ok : h.ok
theorem HaIs.chg {w w' : World} {b : Nat} {wd : Int} {h : HS} {F : List Nat} (hh : HaIs w b wd h) (hc : Chg F w w') (hb : b ∉ F) : HaIs w' b wd h := ⟨hc.at hh.mem hb, hh.ok⟩
theorem HaIs.cell0 {w : World} {b : Nat} {wd : Int} {h : HS} (hh : HaIs w b wd h) : w.cell? ⟨b, 0, none⟩ = some (.int .i64 wd) := blk_cell hh.mem 0 (by simp [haC])
theorem HaIs.cell97 {w : World} {b : Nat} {wd : Int} {h : HS} (hh : HaIs w b wd h) : w.cell? ⟨b, 97, none⟩ = some (.int .u64 h.n) :=
  blk_cell hh.mem 97 (by
    unfold haC
    rw [List.getElem?_toArray, List.getElem?_append_right (by simp [hh.ok.st.1, hh.ok.rest.1])]
    simp [hh.ok.st.1, hh.ok.rest.1])
theorem HaIs.rngSt {w : World} {b : Nat} {wd : Int} {h : HS} (hh : HaIs w b wd h) : rng? w b 1 32 = some (hV h.st) := by
  refine rng?_mk (by rw [hV_size, hh.ok.st.1]) fun j hj => ?_
  have hj' := hj
  rw [hV_size, hh.ok.st.1] at hj'
  refine blk_cell hh.mem (1 + j) ?_
  rw [← Array.getElem?_eq_getElem hj, hV_at _ _ (by rw [hh.ok.st.1]; exact hj')]
  clear hj
  unfold haC
  rw [List.getElem?_toArray, List.getElem?_append_left (by simp [hh.ok.st.1, hh.ok.rest.1]; omega), List.getElem?_append_left (by simp [hh.ok.st.1]; omega), Nat.add_comm, List.getElem?_cons_succ]
  simp [hh.ok.st.1, hj']
theorem HaIs.rngRest {w : World} {b : Nat} {wd : Int} {h : HS} (hh : HaIs w b wd h) : rng? w b 33 64 = some (hV h.rest) := by
  refine rng?_mk (by rw [hV_size, hh.ok.rest.1]) fun j hj => ?_
  have hj' := hj
  rw [hV_size, hh.ok.rest.1] at hj'
  refine blk_cell hh.mem (33 + j) ?_
  rw [← Array.getElem?_eq_getElem hj, hV_at _ _ (by rw [hh.ok.rest.1]; exact hj')]
  clear hj
  unfold haC
  rw [List.getElem?_toArray, List.getElem?_append_left (by simp [hh.ok.st.1, hh.ok.rest.1]; omega), List.getElem?_append_right (by simp [hh.ok.st.1])]
  simp [hh.ok.st.1, hh.ok.rest.1, hj']
theorem HaIs.may (w : World) {b : Nat} {wd : Int} {h : HS} (hh : HaIs w b wd h) : Proofs.YtpklkefnmoaaaaaGreatDoor.may w b 1 32 = true := may_row 1 32 hh.mem (by rw [haC_size wd hh.ok]; omega)
theorem HaIs.setN {w : World} {b : Nat} {wd : Int} {h : HS} (hh : HaIs w b wd h) (n : Nat) : HaIs (w.setCell ⟨b, 97, none⟩ (.int .u64 n)) b wd { h with n := n } := by
  refine ⟨?_, ⟨hh.ok.st, hh.ok.rest⟩⟩
  rw [blk_set hh.mem 97 _]
  congr 2
  apply Array.toList_inj.1
  unfold haC
  rw [Array.toList_setIfInBounds, List.set_append_right _ _ (by simp [hh.ok.st.1, hh.ok.rest.1])]
  simp [hh.ok.st.1, hh.ok.rest.1]
theorem HaIs.setSt {w : World} {b : Nat} {wd : Int} {h : HS} (hh : HaIs w b wd h) (st : List Nat) (h1 : st.length = 32) (h2 : ∀ x ∈ st, x < 256) : HaIs (setRng w b 1 (hV st)) b wd { h with st := st } := by
  refine ⟨?_, ⟨⟨h1, h2⟩, hh.ok.rest⟩⟩
  rw [setRng_heap hh.mem 1 (hV st) (by rw [haC_size wd hh.ok, hV_size]; omega)]
  congr 2
  unfold haC hV
  simp only [List.size_toArray, List.length_map]
  rw [h1]
  congr 1
  have hL : ((h.st.map fun (n : Nat) => Value.int .u8 (n : Int)) ++ (h.rest.map fun (n : Nat) => Value.int .u8 (n : Int)) ++ [Value.int .u64 (h.n : Int)]).drop 32 = (h.rest.map fun (n : Nat) => Value.int .u8 (n : Int)) ++ [Value.int .u64 (h.n : Int)] := by
    rw [List.append_assoc, List.drop_append, List.drop_eq_nil_of_le (by simp [hh.ok.st.1])]
    simp [hh.ok.st.1]
  have hL' : List.drop (1 + 32) (Value.int .i64 wd :: (h.st.map fun (n : Nat) => Value.int .u8 (n : Int)) ++ (h.rest.map fun (n : Nat) => Value.int .u8 (n : Int)) ++ [Value.int .u64 (h.n : Int)]) = _ := hL
  have hT : List.take 1 (Value.int .i64 wd :: (h.st.map fun (n : Nat) => Value.int .u8 (n : Int)) ++ (h.rest.map fun (n : Nat) => Value.int .u8 (n : Int)) ++ [Value.int .u64 (h.n : Int)]) = [Value.int .i64 wd] := rfl
  rw [hL', hT]
  simp
theorem HaIs.setRest {w : World} {b : Nat} {wd : Int} {h : HS} (hh : HaIs w b wd h) (at' : Nat) (c : List Nat) (hl : at' + c.length ≤ 64) (hc : ∀ x ∈ c, x < 256) :
    HaIs (w.setRow b ((haC wd h).toList.take (33 + at') ++ (hV c).toList ++ (haC wd h).toList.drop (33 + at' + (hV c).toList.length)).toArray) b wd { h with rest := patch h.rest at' c } := by
  have hp := patch_length h.rest at' c (by rw [hh.ok.rest.1]; exact hl)
  refine ⟨?_, ⟨hh.ok.st, ⟨by rw [hp, hh.ok.rest.1], fun x hx => ?_⟩⟩⟩
  · rw [setRow_heap w b _ _ _ _ hh.mem]
    congr 2
    unfold haC hV patch
    have e1 : (h.st.map fun (n : Nat) => Value.int .u8 (n : Int)).length = 32 := by simp [hh.ok.st.1]
    have e2 : (h.rest.map fun (n : Nat) => Value.int .u8 (n : Int)).length = 64 := by simp [hh.ok.rest.1]
    simp only [List.map_append, List.map_take, List.map_drop, List.length_map, List.toList_toArray]
    generalize (h.st.map fun (n : Nat) => Value.int .u8 (n : Int)) = s at *
    generalize (h.rest.map fun (n : Nat) => Value.int .u8 (n : Int)) = r at *
    generalize hcc : (c.map fun (n : Nat) => Value.int .u8 (n : Int)) = cc
    have hcl : cc.length = c.length := by rw [← hcc]; simp
    congr 1
    have hA : (Value.int .i64 wd :: s).length = 33 := by simp [e1]
    generalize (Value.int .i64 wd :: s) = A at *
    rw [List.append_assoc A r, List.take_append, List.take_of_length_le (by omega), hA, show 33 + at' - 33 = at' from by omega, List.take_append_of_le_length (by omega), List.drop_append, List.drop_eq_nil_of_le (by omega), hA, show 33 + at' + c.length - 33 = at' + c.length from by omega, List.drop_append_of_le_length (by omega)]
    simp
  · unfold patch at hx
    rcases List.mem_append.1 hx with q | q
    · rcases List.mem_append.1 q with q | q
      · exact hh.ok.rest.2 x (List.mem_of_mem_take q)
      · exact hc x q
    · exact hh.ok.rest.2 x (List.mem_of_mem_drop q)
/-- As many bytes as fit are copied into the rest. -/
theorem HaIs.copy {w : World} {b : Nat} {wd : Int} {h : HS} (hh : HaIs w b wd h) {v : Value} {l : List Nat} (hl : BsIs w v l) (h0 : l ≠ []) (at' : Nat) (ha : at' < 64) (m : Nat) (hm : m = min l.length (64 - at')) (ty : TypeId) :
    ∃ wy, (cpX #[37, 37] ty #[.slice (some ⟨b, 33 + at', none⟩) (64 - at') (64 - at'), v]).run Tryz.prog w = .ok (.int .i64 m) wy ∧ HaIs wy b wd { h with rest := patch h.rest at' (l.take m) } ∧ Chg [b] w wy := by
  obtain ⟨h1, a, cap, rfl, h2, h3, h4⟩ := hl
  rcases h4 with h4 | ⟨g, o, ha', hb, hr⟩
  · exact absurd h4 h0
  subst ha'
  have hu : Tryz.prog.underlying 37 = some (.slice 5) := u_bytes
  have hsz : (Tryz.prog.info? 5).map (·.size) = some 1 := by kernel_rfl
  have hml : (l.take m).length = m := by rw [List.length_take]; omega
  have key := run_copy_row (P := Tryz.prog) w 37 37 ty 5 b (33 + at') (64 - at') (64 - at') ⟨g, o, none⟩ l.length cap (haC wd h) 262 (hV (l.take m)).toList hu hsz hh.mem
    (by simp only [hV, List.length_map, List.toList_toArray] ; rw [hml, hm]) (fun j u hj => by
      unfold hV at hj
      rw [List.toList_toArray, List.getElem?_map] at hj
      obtain ⟨x, hx, rfl⟩ := Option.map_eq_some_iff.1 hj
      obtain ⟨hjl, hx2⟩ := List.getElem?_eq_some_iff.1 hx
      have hjm : j < l.length := by rw [hml] at hjl; omega
      have := hr j hjm
      rw [List.getElem_take] at hx2
      rw [← hx2]
      by_cases hz : j = 0
      · subst hz; simpa [Addr.add] using this
      · simpa [Addr.add, hz] using this)
    (by rw [haC_size wd hh.ok]; simp only [hV, List.toList_toArray, List.length_map, hml]; omega)
    (fun u hu => by
      unfold hV at hu
      rw [List.toList_toArray] at hu
      obtain ⟨n, _, rfl⟩ := List.mem_map.1 hu
      rfl)
  refine ⟨_, key.trans ?_, hh.setRest at' (l.take m) (by rw [hml]; omega) (fun x hx => h1 x (List.mem_of_mem_take hx)), (Chg.refl _ _).setRow (by simp) _⟩
  simp only [hV, List.toList_toArray, List.length_map, hml]
  rfl
end Go.Proofs.YtpklkefnmoaaaaaGreatDoor

/- Bytes that a call owns; slices of bytes put one behind the other. -/
namespace Go.Proofs.YtpklkefnmoaaaaaGreatDoor
open Go.RowKit Go.Lib
set_option linter.unusedVariables false
set_option linter.unusedSimpArgs false

/-- A row of bytes of the call's own. -/
def BOwn (w : World) (B : Nat) (v : Value) (l : List Nat) : Prop := w.ownsRow B 5 1 v l.length (l.map fun (n : Nat) => Value.int .u8 (n : Int))
theorem BOwn.nil (w : World) (B : Nat) : BOwn w B (.slice none 0 0) [] := own_nil _ _ _ _
theorem BOwn.bs {w : World} {B : Nat} {v : Value} {l : List Nat} (h : BOwn w B v l) (hb : ∀ x ∈ l, x < 256) : BsIs w v l := by
  refine ⟨hb, ?_⟩
  rcases h.2 with ⟨rfl, h0⟩ | ⟨g, cap, cur, rfl, hb, hh, hnc, hm, hcs, ht⟩
  · have : l = [] := List.eq_nil_of_length_eq_zero h0
    subst this
    exact ⟨none, 0, rfl, Nat.le_refl _, Nat.zero_le _, .inl rfl⟩
  · refine ⟨_, cap, rfl, hnc, hm, .inr ⟨g, 0, rfl, blk_lt hh, fun i hi => ?_⟩⟩
    rw [Nat.zero_add]
    refine blk_cell hh i ?_
    have e : (l.map fun (n : Nat) => Value.int .u8 (n : Int))[i]? = some (.int .u8 (l[i] : Nat)) := by simp [hi]
    rw [← ht, List.getElem?_take] at e
    split at e
    · simpa using e
    · cases e
theorem BOwn.off {w : World} {B : Nat} {v : Value} {l : List Nat} (h : BOwn w B v l) {k : Nat} (hk : k < B) : OffB v k := by
  intro a n c e hn
  rcases h.2 with ⟨rfl, h0⟩ | ⟨g, cap, cur, rfl, hb, hh, _⟩
  · cases e
  · simp at e
    rw [← e.1]
    show g ≠ k
    omega
theorem BsIs.rd {w : World} {A : Option Addr} {n c : Nat} {l : List Nat} (h : BsIs w (.slice A n c) l) : Rd w 1 A l.length (l.map fun (n : Nat) => Value.int .u8 (n : Int)) := by
  obtain ⟨h1, a, cap, hv, h2, h3, h4⟩ := h
  injection hv with hA
  refine ⟨by simp, fun hn => ?_⟩
  rcases h4 with h4 | ⟨b, o, ha, hb, hr⟩
  · subst h4; simp at hn
  · refine ⟨b, o, hA.trans ha, fun j u hu => ?_⟩
    rw [List.getElem?_map] at hu
    obtain ⟨x, hx, rfl⟩ := Option.map_eq_some_iff.1 hu
    obtain ⟨hj, rfl⟩ := List.getElem?_eq_some_iff.1 hx
    exact hr j hj
theorem BsIs.append {w : World} {B : Nat} {v s : Value} {l m : List Nat} (h : BOwn w B v l) (hs : BsIs w s m) (hlen : l.length + m.length ≤ 1099511627776) (hB : B ≤ w.heap.size) (ty : TypeId) :
    ∃ v' w', (Builtin.append_ #[37, 37] ty #[v, s]).run Tryz.prog w = .ok v' w' ∧ BOwn w' B v' (l ++ m) ∧ Chg (ob v) w w' ∧ (∀ k ∈ ob v', k ∈ ob v ∨ w.heap.size ≤ k) := by
  obtain ⟨i, hi, hz, hsz, hby⟩ := infoOfB i_u8
  obtain ⟨a, cap, rfl⟩ : ∃ a cap, s = .slice a m.length cap := by obtain ⟨h1, a, cap, hv, _⟩ := hs; exact ⟨a, cap, hv⟩
  obtain ⟨v', w', hr, h2, h3, h4⟩ := run_append_any (P := Tryz.prog) w B 37 ty 5 i _ 1 1 u_bytes hi hz hsz hby rfl (by decide) v l.length _ h a m.length cap _ hs.rd (fun u hu => by obtain ⟨n, _, rfl⟩ := List.mem_map.1 hu; rfl) (by unfold maxLen; omega) (by omega) hB
  refine ⟨v', w', hr, ?_, h3, h4⟩
  unfold BOwn
  rw [List.length_append, List.map_append]
  exact h2
theorem ob_le {w w' : World} {v v' : Value} {B : Nat} {l : List Nat} (h : BOwn w B v l) (hB : B ≤ w.heap.size) (h4 : ∀ k ∈ ob v', k ∈ ob v ∨ w.heap.size ≤ k) : ∀ k ∈ ob v', B ≤ k := by
  intro k hk
  rcases h4 k hk with q | q
  · exact (own_lt h k q).1
  · omega

/-! slices.Grow on nothing, slices.Concat. -/
def GrowP (w : World) (n : Nat) (e : Ending) (w' : World) : Prop := ∃ v, e = .returned v ∧ BOwn w' w.heap.size v [] ∧ Chg [] w w'
set_option maxRecDepth 100000 in
theorem grow_calls (w : World) (n : Nat) (h0 : 0 < n) (hn : n ≤ 1099511627776) : Calls Tryz.prog 239 #[.slice none 0 0, .int .i64 n] w (GrowP w n) := by
  obtain ⟨i, hi, hz, hsz, hby⟩ := infoOfB i_u8
  have hold : (Builtin.firstCells i.size 0 (.slice none 0 0)).run Tryz.prog w.drew = .ok #[] w.drew := run_firstCells_none w.drew i.size 0 0 0
  have hG : n ≤ grownCap w n 0 5 := grownCap_ge w _ _ _
  have hG2 : grownCap w n 0 5 ≤ maxLen := grownCap_le_maxLen w n 0 5 (by unfold maxLen; omega)
  have hint : Tryz.prog.underlying 3 = some (.int .i64) := by kernel_rfl
  have hrz : ∀ ty, (Builtin.append_ #[37, 3] ty #[.slice none 0 0, .int .i64 (n : Int)]).run Tryz.prog w =
      .ok (.slice (some ⟨w.heap.size, 0, none⟩) n (grownCap w n 0 5)) (w.drew.alloc (.cells ((#[] : Array Value) ++ Builtin.zeroCells (Value.int .u8 0).cells n ++ Builtin.zeroCells (Value.int .u8 0).cells (grownCap w n 0 5 - n)) 5)) := fun ty => by
    have h := Lib.run_append_grow_zeros w 37 3 ty 5 i _ .i64 .i64 u_bytes hint hi hz none 0 0 [] hold n (by omega) (by omega) (by omega) (by omega)
      (by rw [hby]; omega)
      (by rw [Nat.zero_add]; exact growslice_fits (by omega) (by rw [hby]; omega))
    rw [Nat.zero_add] at h
    exact h
  have hcs : ((#[] : Array Value) ++ Builtin.zeroCells (Value.int .u8 0).cells n ++ Builtin.zeroCells (Value.int .u8 0).cells (grownCap w n 0 5 - n)).size = grownCap w n 0 5 := by
    simp [Builtin.zeroCells, Value.cells]
    omega
  unfold maxLen at hG2
  generalize ((#[] : Array Value) ++ Builtin.zeroCells (Value.int .u8 0).cells n ++ Builtin.zeroCells (Value.int .u8 0).cells (grownCap w n 0 5 - n)) = cs at *
  generalize grownCap w n 0 5 = G at *
  clear hold hi hz hsz hby hint
  have HCS := Lib.hid hcs
  clear hcs
  go_enter Tryz.func239, Tryz.ntmps239
  go_wp2_with (at_builtin; refine Lib.wpList_append_run _ rfl _ _ _ _ rfl _ _ rfl rfl _ _ (hrz _) ?_)
  go_ret
  refine ⟨_, rfl, ⟨by simp, .inr ⟨w.heap.size, G, cs, rfl, Nat.le_refl _, blk_new w.drew _, Nat.zero_le _, by unfold maxLen; omega, by rw [HCS.out]; omega, by simp⟩⟩, (((Chg.refl _ _).drew).alloc _)⟩
/-- The parts of a text, in memory one behind the other. -/
def Parts (w : World) (g o : Nat) (ps : List (Value × List Nat)) : Prop := ∀ i (h : i < ps.length), w.cell? ⟨g, o + i, none⟩ = some ps[i].1 ∧ BsIs w ps[i].1 ps[i].2
def sumL (ps : List (Value × List Nat)) (i : Nat) : Nat := ((ps.take i).map (·.2.length)).sum
def catL (ps : List (Value × List Nat)) (i : Nat) : List Nat := (ps.take i).flatMap (·.2)
theorem sumL_succ (ps : List (Value × List Nat)) (i : Nat) (h : i < ps.length) : sumL ps (i + 1) = sumL ps i + ps[i].2.length := by
  unfold sumL
  rw [List.take_succ_eq_append_getElem h, List.map_append, List.sum_append]
  rfl
theorem catL_succ (ps : List (Value × List Nat)) (i : Nat) (h : i < ps.length) : catL ps (i + 1) = catL ps i ++ ps[i].2 := by
  unfold catL
  rw [List.take_succ_eq_append_getElem h, List.flatMap_append]
  simp only [List.flatMap_cons, List.flatMap_nil, List.append_nil]
theorem catL_length (ps : List (Value × List Nat)) (i : Nat) : (catL ps i).length = sumL ps i := by
  unfold catL sumL
  simp [List.length_flatMap]
theorem sumL_le (ps : List (Value × List Nat)) (i j : Nat) (h : i ≤ j) : sumL ps i ≤ sumL ps j := by
  induction j with
  | zero => obtain rfl : i = 0 := by omega
            exact Nat.le_refl _
  | succ j ih =>
    rcases Nat.lt_or_ge i (j + 1) with q | q
    · refine Nat.le_trans (ih (by omega)) ?_
      rcases Nat.lt_or_ge j ps.length with r | r
      · rw [sumL_succ ps j r]; omega
      · unfold sumL
        rw [List.take_of_length_le (by omega), List.take_of_length_le (by omega)]
        exact Nat.le_refl _
    · obtain rfl : i = j + 1 := by omega
      exact Nat.le_refl _
theorem catL_lt {w : World} {g o : Nat} {ps : List (Value × List Nat)} (h : Parts w g o ps) (i : Nat) (hi : i ≤ ps.length) : ∀ x ∈ catL ps i, x < 256 := by
  intro x hx
  unfold catL at hx
  obtain ⟨p, hp, hx⟩ := List.mem_flatMap.1 hx
  obtain ⟨j, hj, rfl⟩ := List.getElem_of_mem (List.mem_of_mem_take hp)
  exact (h j hj).2.1 x hx
theorem Parts.chg0 {w w' : World} {g o : Nat} {ps : List (Value × List Nat)} (h : Parts w g o ps) (hc : Chg [] w w') : Parts w' g o ps := fun i hi =>
  ⟨(hc.cell (p := ⟨g, o + i, none⟩) (World.block_lt_of_cell? _ _ (h i hi).1) (by simp)).trans (h i hi).1, (h i hi).2.chg0 hc⟩
def ConcatP (w : World) (l : List Nat) (e : Ending) (w' : World) : Prop := ∃ v, e = .returned v ∧ BOwn w' w.heap.size v l ∧ Chg [] w w'
set_option maxRecDepth 100000 in
theorem concat_calls (w : World) (g o cap : Nat) (ps : List (Value × List Nat)) (hp : Parts w g o ps) (h0 : 0 < sumL ps ps.length) (hs : sumL ps ps.length ≤ 1099511627776) (hn : ps.length ≤ 1000000) :
    Calls Tryz.prog 210 #[.slice (some ⟨g, o, none⟩) ps.length cap] w (ConcatP w (catL ps ps.length)) := by
  go_enter Tryz.func210, Tryz.ntmps210
  go_wp2
  go_loopg [11, 3] ps.length (fun gh ii ss wx => ∃ i : Nat, i ≤ ps.length ∧ gh = ps.length - i ∧ ii = .int .i64 i ∧ ss = .int .i64 (sumL ps i : Nat) ∧ wx = w)
  case atStart => exact ⟨0, by omega, by omega, rfl, rfl, rfl⟩
  case round =>
    obtain ⟨i, hi, hgi, rfl, rfl, hwr⟩ := hrel
    obtain rfl : wr = w := hwr
    by_cases hlt : i < ps.length
    · have hlt' : i < ps.length := hlt
      have hsu := sumL_succ ps i hlt'
      have hle := sumL_le ps (i + 1) ps.length hlt'
      obtain ⟨hc, hb, a, c, hv, hrest⟩ := hp i hlt'
      rw [hv] at hc
      clear hrest
      have hbl := World.block_lt_of_cell? _ _ hc
      have HSU := Lib.hid hsu
      rw [hsu] at hle
      clear hsu hp hb
      generalize ps[i].2.length = m at *
      generalize sumL ps i = s at *
      generalize ps[i].1 = v at *
      subst hv
      go_wp2
      go_roundg (ps.length - (i + 1))
      case measure => omega
      case rel => exact ⟨i + 1, by omega, rfl, by go_num, by rw [HSU.out]; go_num, rfl⟩
    · obtain rfl : i = ps.length := by omega
      have hgr := grow_calls wr (sumL ps ps.length) h0 hs
      clear hgi
      go_wp2_with (go_at_call 239; refine hgr.mono ?_; rintro e w1 ⟨v1, rfl, hv1, hc1⟩)
      have hlen1 := catL_length ps
      obtain ⟨wo, rfl⟩ : ∃ wo : World, wo = wr := ⟨_, rfl⟩
      clear hgr
      go_loopg [27, 6] ps.length (fun gh ii vv wx => ∃ i : Nat, i ≤ ps.length ∧ gh = ps.length - i ∧ ii = .int .i64 i ∧ BOwn wx wo.heap.size vv (catL ps i) ∧ Chg [] wo wx)
      case atStart => exact ⟨0, by omega, by omega, rfl, hv1, hc1⟩
      case round =>
        clear hv1 hc1
        obtain ⟨i, hi, hgi, rfl, hO, hcw⟩ := hrel
        by_cases hlt : i < ps.length
        · have hlt' : i < ps.length := hlt
          have hsu := catL_succ ps i hlt'
          have hle := sumL_le ps (i + 1) ps.length hlt'
          rw [← hlen1 (i + 1), hsu, List.length_append] at hle
          obtain ⟨hc, hb⟩ := (hp.chg0 hcw) i hlt'
          have hbl := World.block_lt_of_cell? _ _ hc
          obtain ⟨v2, w2, hrun, hO2, hc2, hob⟩ := hb.append hO (by omega) hcw.size 37
          have HSU := Lib.hid hsu
          have hol := own_lt hO
          have HW : Chg [] wo w2 := hcw.trans hc2 (fun k hk => .inr (hol k hk).1)
          clear hsu hb hp hO hlen1 hle hol hob hc2 hcw
          generalize ps[i].1 = pv at *
          go_wp2_with (at_builtin; refine Lib.wpList_append_run _ rfl _ _ _ _ rfl _ _ rfl rfl _ _ hrun ?_)
          go_roundg (ps.length - (i + 1))
          case measure => omega
          case rel => exact ⟨i + 1, by omega, rfl, by go_num, by rw [HSU.out]; exact hO2, HW⟩
        · obtain rfl : i = ps.length := by omega
          clear hgi
          go_wp2
          go_ret
          exact ⟨_, rfl, hO, hcw⟩
end Go.Proofs.YtpklkefnmoaaaaaGreatDoor

/- The hash: a new hasher, its copy, the text's tail. -/
namespace Go.Proofs.YtpklkefnmoaaaaaGreatDoor
open Go.RowKit
set_option linter.unusedVariables false
set_option linter.unusedSimpArgs false

theorem HIs.first {w : World} (h : HIs w) : rng? w 0 0 32 = some (hV firstN) := by
  refine rng?_mk (by rw [hV_size]; rfl) fun j hj => ?_
  have hj' : j < 32 := by rw [hV_size] at hj; exact hj
  rw [← Array.getElem?_eq_getElem hj, hV_at _ _ (by exact hj'), Nat.zero_add]
  exact h.f j hj'
/-! A hasher as a value. -/
@[go_sem ↓] theorem hold_ld_Hasher (x : Value) : Instr.loadAt 262 x = ldX 262 x := rfl
@[go_sem ↓] theorem hold_st_Hasher (x v : Value) : Instr.storeAt 262 x v = stX 262 x v := rfl
@[go_sem ↓] theorem hold_bd_Hasher (ps : Array (Nat × Value)) : Instr.build 262 ps = bdX 262 ps := rfl
theorem u_Hasher : Tryz.prog.underlying 262 = some (.struct (Tryz.prog.fieldsOf 262)) := by kernel_rfl
@[go_sem] theorem ld_Hasher (b o : Nat) (w : World) : (ldX 262 (.pointer (some ⟨b, o, none⟩))).run Tryz.prog w = ldR Tryz.prog 262 b o w (rng? w b o 98) := run_ldR _ _ 98 u_Hasher rfl (by kernel_rfl) b o w
@[go_sem] theorem st_Hasher (b o : Nat) (cs : Array Value) (w : World) : (stX 262 (.pointer (some ⟨b, o, none⟩)) (.agg cs)).run Tryz.prog w = stR Tryz.prog 262 b o cs w (may w b o 98 && decide (cs.size = 98) && one1 cs) := run_stR _ 98 (by kernel_rfl) b o cs w
def zeroHasher : Array Value := haC 0 ⟨List.replicate 32 0, List.replicate 64 0, 0⟩
@[go_sem ↓] theorem zv_Hasher (w : World) : (zeroValue 262).run Tryz.prog w = .ok (.agg zeroHasher) w := by kernel_rfl
@[go_sem] theorem zeroHasher_size : zeroHasher.size = 98 := by simp [zeroHasher, haC]
theorem places_Hasher (w : World) : ((Tryz.prog.fieldsOf 262).mapM fun (f : Field) => do pure (f.offset, ← sizeOf f.type)).run Tryz.prog w = .ok #[(0, 1), (1, 32), (33, 64), (97, 1)] w := by kernel_rfl
theorem bd_Hasher (wd : Int) (st : List Nat) (hst : st.length = 32) (w : World) : (bdX 262 #[(0, .int .i64 wd), (1, .agg (hV st))]).run Tryz.prog w = .ok (.agg (haC wd ⟨st, List.replicate 64 0, 0⟩)) w := by
  unfold bdX Instr.build
  simp only [Sem.run_bind, zv_Hasher, run_underlying u_Hasher, Result.andThen_ok, places_Hasher]
  have hz := zeroHasher_size
  simp only [Value.cells]
  rw [fill_part _ _ 0 0 1 (.int .i64 wd) _ rfl rfl (by omega)]
  have e0 : (zeroHasher.toList.take 0 ++ (Value.int .i64 wd).cells.toList ++ zeroHasher.toList.drop (0 + 1)).toArray = haC wd ⟨List.replicate 32 0, List.replicate 64 0, 0⟩ := rfl
  rw [e0]
  have hs2 : (haC wd ⟨List.replicate 32 0, List.replicate 64 0, 0⟩).size = 98 := by simp [haC]
  rw [fill_part _ _ 1 1 32 (.agg (hV st)) _ rfl (by simpa [Value.cells] using (hV_size st).trans hst) (by omega)]
  simp only [Instr.fill, Sem.run_pure, Result.ok.injEq, and_true, Value.agg.injEq]
  apply Array.toList_inj.1
  have hd : List.drop (1 + 32) (haC wd ⟨List.replicate 32 0, List.replicate 64 0, 0⟩).toList = (List.replicate 64 0).map (fun (n : Nat) => Value.int .u8 (n : Int)) ++ [Value.int .u64 ((0 : Nat) : Int)] := rfl
  have ht : List.take 1 (haC wd ⟨List.replicate 32 0, List.replicate 64 0, 0⟩).toList = [Value.int .i64 wd] := rfl
  rw [hd, ht]
  simp [haC, hV, Value.cells]
theorem haC_one (wd : Int) (h : HS) : one1 (haC wd h) = true := by
  unfold one1 haC
  rw [Array.all_eq_true_iff_forall_mem]
  intro v hv
  simp at hv
  rcases hv with rfl | ⟨n, _, rfl⟩ | ⟨n, _, rfl⟩ | rfl <;> rfl

def NewHP (w : World) (wd : Int) (e : Ending) (w' : World) : Prop := ∃ b, e = .returned (.pointer (some ⟨b, 0, none⟩)) ∧ w.heap.size ≤ b ∧ HaIs w' b wd ⟨cutN wd firstN, List.replicate 64 0, 0⟩ ∧ Chg [] w w'
theorem start_ok (wd : Int) : (HS.mk (cutN wd firstN) (List.replicate 64 0) 0).ok :=
  ⟨⟨cut_length _ _ rfl, cut_lt _ _ (by decide)⟩, ⟨by simp, fun x hx => by rw [List.eq_of_mem_replicate hx]; decide⟩⟩
set_option maxRecDepth 100000 in
theorem newh_calls (w : World) (wd : Int) (hk : HIs w) : Calls Tryz.prog 207 #[.int .i64 wd] w (NewHP w wd) := by
  have hf := hk.first
  have hct := cut_calls w wd firstN rfl
  have hbd := fun W => bd_Hasher wd (cutN wd firstN) (cut_length _ _ rfl) W
  have HO := Lib.hid (start_ok wd)
  clear hk
  generalize hst : cutN wd firstN = st at *
  generalize hzs : List.replicate 64 0 = zs at *
  have HE : Shut (cutN wd firstN = st ∧ List.replicate 64 0 = zs) := ⟨hst, hzs⟩
  clear hst hzs
  go_enter Tryz.func207, Tryz.ntmps207
  go_wp2_with (go_at_call 235; refine hct.mono ?_; rintro e w1 ⟨rfl, hc⟩)
  go_ret
  refine ⟨_, rfl, hc.size, ?_, hc.alloc _⟩
  rw [HE.out.1, HE.out.2]
  exact ⟨blk_new w1 _, HO.out⟩
def CloneP (w : World) (wd : Int) (h : HS) (e : Ending) (w' : World) : Prop := ∃ b, e = .returned (.pointer (some ⟨b, 0, none⟩)) ∧ w.heap.size ≤ b ∧ HaIs w' b wd h ∧ Chg [] w w'
theorem HaIs.rngAll {w : World} {b : Nat} {wd : Int} {h : HS} (hh : HaIs w b wd h) : rng? w b 0 98 = some (haC wd h) := rng?_row hh.mem (haC_size wd hh.ok)
set_option maxRecDepth 100000 in
theorem clone_calls (w : World) (b : Nat) (wd : Int) (h : HS) (hh : HaIs w b wd h) : Calls Tryz.prog 237 #[.pointer (some ⟨b, 0, none⟩)] w (CloneP w wd h) := by
  have hr := hh.rngAll
  have hb := blk_lt hh.mem
  have hs := haC_size wd hh.ok
  have h1 := haC_one wd h
  have HO := Lib.hid hh.ok
  have hfin : ∀ w : World, HaIs (w.alloc (.cells (haC wd h) 262)) w.heap.size wd h := fun w => ⟨blk_new w _, HO.out⟩
  have HF := Lib.hid hfin
  clear hh hfin
  generalize haC wd h = cs at *
  go_enter Tryz.func237, Tryz.ntmps237
  go_wp2
  go_ret
  exact ⟨_, rfl, Nat.le_refl _, HF.out w, (Chg.refl _ _).alloc _⟩

/-! The tail of a text. -/
def bigN (x n : Nat) : List Nat := (List.range n).map fun j => x / 2 ^ (8 * (n - 1 - j)) % 256
theorem BigIs.cells {w : World} {b n x : Nat} (h : BigIs w b n x n) : w.heap[b]? = some (.cells (hV (bigN x n)) 5 (0, 0)) := by
  obtain ⟨cs, h1, h2, h3⟩ := h.ex
  rw [h1]
  congr 2
  apply Array.ext_getElem?
  intro j
  by_cases hj : j < n
  · have := h3 (n - 1 - j) (by omega)
    rw [show n - 1 - (n - 1 - j) = j from by omega] at this
    rw [this, hV_at _ _ (by simp [bigN, hj]), List.getD_eq_getElem?_getD]
    simp [bigN, hj]
  · rw [Array.getElem?_eq_none (by omega), Array.getElem?_eq_none (by rw [hV_size]; simp [bigN]; omega)]
theorem bigN_length (x n : Nat) : (bigN x n).length = n := by simp [bigN]
theorem bigN_lt (x n : Nat) : ∀ y ∈ bigN x n, y < 256 := by
  intro y hy
  unfold bigN at hy
  obtain ⟨j, _, rfl⟩ := List.mem_map.1 hy
  exact Nat.mod_lt _ (by decide)
def padN (n : Nat) : Nat := (119 - n % 64) % 64
def tailN (n : Nat) : List Nat := 128 :: List.replicate (padN n) 0 ++ bigN (8 * n) 8
theorem tailN_lt (n : Nat) : ∀ x ∈ tailN n, x < 256 := by
  intro x hx
  unfold tailN at hx
  simp only [List.cons_append, List.mem_cons, List.mem_append] at hx
  rcases hx with rfl | hx | hx
  · decide
  · rw [List.eq_of_mem_replicate hx]; decide
  · exact bigN_lt _ _ x hx
theorem make_bytes_u (j : Nat) (hj : j ≤ 100000) (w : World) : (Instr.makeSlice 37 (.int .u64 j) (.int .u64 j)).run Tryz.prog w = .ok (.slice (some ⟨w.heap.size, 0, none⟩) j j) (w.alloc (.cells (madeCells #[.int .u8 0] j) 5)) := by
  obtain ⟨i, hi, hz, hs, hb⟩ := infoOfB i_u8
  have := run_make (P := Tryz.prog) w 37 5 i _ u_bytes hi hz .u64 .u64 j j (by omega) (by omega) (by rw [hb]; omega) (by omega)
  rw [hs, Nat.mul_one] at this
  exact this
theorem made_zero (n : Nat) : madeCells #[.int .u8 0] n = hV (List.replicate n 0) := by
  apply Array.ext_getElem?
  intro j
  by_cases hj : j < n
  · rw [hV_at _ _ (by simpa using hj)]
    simp [madeCells, hj, Nat.mod_one]
  · rw [Array.getElem?_eq_none (by rw [size_madeCells]; omega), Array.getElem?_eq_none (by rw [hV_size]; simp; omega)]
def TailP (w : World) (n : Nat) (e : Ending) (w' : World) : Prop := ∃ v, e = .returned v ∧ BsIs w' v (tailN n) ∧ (∀ k, k < w.heap.size → OffB v k) ∧ Chg [] w w'
set_option maxRecDepth 100000 in
theorem tail_calls (w : World) (n : Nat) (hn : n < 2305843009213693952) : Calls Tryz.prog 238 #[.int .u64 n] w (TailP w n) := by
  have hp : padN n < 64 := Nat.mod_lt _ (by decide)
  have hmk := make_bytes_u (1 + padN n) (by omega)
  rw [made_zero] at hmk
  have e1 : ((1 + padN n : Nat) : Int) = 1 + (119 - (n : Int)) % 64 := by unfold padN; omega
  rw [e1] at hmk
  have hbig := fun W => big_calls W (8 * n) 8 (.inr rfl) (by omega)
  rw [show ((8 * n : Nat) : Int) = 8 * (n : Int) from by omega] at hbig
  clear e1
  have hset : (hV (List.replicate (1 + padN n) 0)).setIfInBounds 0 (.int .u8 128) = hV (128 :: List.replicate (padN n) 0) := by
    have := hV_set (List.replicate (1 + padN n) 0) 0 128
    rw [show ((128 : Nat) : Int) = 128 from rfl] at this
    rw [this, Nat.add_comm, List.replicate_succ, List.set_cons_zero]
  have h0 : (hV (List.replicate (1 + padN n) 0))[0]? = some (.int .u8 0) := by
    rw [hV_at _ _ (by rw [List.length_replicate]; omega), Nat.add_comm, List.replicate_succ]
    rfl
  have hsz : (hV (List.replicate (1 + padN n) 0)).size = 1 + padN n := by rw [hV_size, List.length_replicate]
  have hlt : 0 < (hV (List.replicate (1 + padN n) 0)).size := by omega
  have HSET := Lib.hid hset
  have HSZ := Lib.hid hsz
  clear hset hsz
  generalize hV (List.replicate (1 + padN n) 0) = cs0 at *
  go_enter Tryz.func238, Tryz.ntmps238
  go_upto_region 4 with (go_at_call 211; refine (hbig _).mono ?_; rintro e w1 ⟨rfl, hB, hc⟩)
  rw [HSET.out] at hc
  have hs1 : (hV (128 :: List.replicate (padN n) 0)).size = (128 :: List.replicate (padN n) 0).length * 1 := by rw [hV_size, Nat.mul_one]
  have hO : BOwn w1 w.heap.size (.slice (some ⟨w.heap.size, 0, none⟩) (1 + padN n) (1 + padN n)) (128 :: List.replicate (padN n) 0) := by
    have := own_new w w.heap.size 5 1 (1 + padN n) (hV (128 :: List.replicate (padN n) 0)) (Nat.le_refl _) (by rw [hs1, List.length_cons, List.length_replicate]; omega) (by unfold maxLen; omega)
    have := own_chg this hc (by simp)
    unfold BOwn
    rw [List.length_cons, List.length_replicate, show padN n + 1 = 1 + padN n from by omega]
    exact this
  have hsz2 : (w.alloc (.cells (cs0.setIfInBounds 0 (.int .u8 128)) 5)).heap.size = w.heap.size + 1 := by simp
  rw [hsz2] at hB
  have hBs : BsIs w1 (.slice (some ⟨w.heap.size + 1, 0, none⟩) 8 8) (bigN (8 * n) 8) :=
    ⟨bigN_lt _ _, some ⟨w.heap.size + 1, 0, none⟩, 8, by rw [bigN_length], by rw [bigN_length]; omega, by unfold maxLen; omega, .inr ⟨w.heap.size + 1, 0, rfl, blk_lt hB.cells, fun i hi => by
      rw [Nat.zero_add]
      refine blk_cell hB.cells i ?_
      rw [hV_at _ _ hi, List.getD_eq_getElem?_getD, List.getElem?_eq_getElem hi]
      rfl⟩⟩
  obtain ⟨v2, w2, hrun, hO2, hc2, hob⟩ := hBs.append hO (by rw [bigN_length, List.length_cons, List.length_replicate]; omega) (by have := hc.size; rw [World.size_alloc] at this; omega) 37
  have HC : Chg [] w w2 := (((Chg.refl [] w).alloc _).nil_trans hc).trans hc2 (by rw [ob_some]; simp)
  have HO2 := Lib.hid hO2
  have hw1 : w.heap.size ≤ w1.heap.size := by have := hc.size; rw [World.size_alloc] at this; omega
  clear hB hc hs1 hO hsz2 hBs hO2 hc2 hob hbig hmk
  go_wp2_with (at_builtin; refine Lib.wpList_append_run _ rfl _ _ _ _ rfl _ _ rfl rfl _ _ hrun ?_)
  go_ret
  exact ⟨_, rfl, HO2.out.bs (tailN_lt n), fun k hk => HO2.out.off hk, HC⟩
end Go.Proofs.YtpklkefnmoaaaaaGreatDoor

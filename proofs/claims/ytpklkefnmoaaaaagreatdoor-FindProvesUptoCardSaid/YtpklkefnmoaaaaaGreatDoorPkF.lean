/- Texts put into one by pack.py: TrA HsO TrC. -/
import Derived.Test.YtpklkefnmoaaaaaGreatDoorPkD
import Derived.Test.YtpklkefnmoaaaaaGreatDoorPkE
import Derived.Test.YtpklkefnmoaaaaaGreatDoorPkB
import Derived.Test.YtpklkefnmoaaaaaGreatDoorPkA
/- A tree: its view, its memory, New. -/
namespace Go.Proofs.YtpklkefnmoaaaaaGreatDoor
open Go.RowKit
set_option linter.unusedVariables false
set_option linter.unusedSimpArgs false

/-! Hashes as cells. -/
def toN (x : Array Value) : List Nat := x.toList.map fun v => (intOf v).toNat
theorem IsHash.toN {x : Array Value} (h : IsHash x) : hV (toN x) = x ∧ (toN x).length = 32 ∧ ∀ n ∈ toN x, n < 256 := by
  obtain ⟨l, rfl, hl, hb⟩ := h.nats
  have e : Proofs.YtpklkefnmoaaaaaGreatDoor.toN (hV l) = l := by
    unfold Proofs.YtpklkefnmoaaaaaGreatDoor.toN hV
    rw [List.toList_toArray, List.map_map]
    conv => rhs; rw [← List.map_id l]
    apply List.map_congr_left
    intro n _
    simp [intOf]
  rw [e]
  exact ⟨rfl, hl, hb⟩
def nodeA (wd : Int) (x y : Array Value) : Array Value := hV (nodeN wd (toN x) (toN y))
def foldA (wd : Int) (x y : Array Value) : Array Value := hV (foldN wd (toN x) (toN y))
def rootA (wd : Int) (n : Nat) (x : Array Value) : Array Value := hV (rootN wd n (toN x))
theorem nodeA_is (wd : Int) {x y : Array Value} (hx : IsHash x) (hy : IsHash y) : IsHash (nodeA wd x y) := by
  have h := sum_ok wd (1 :: toN x ++ toN y) (text_lt 1 _ _ (by decide) hx.toN.2.2 hy.toN.2.2)
  exact hV_is _ h.1 h.2
theorem foldA_is (wd : Int) {x y : Array Value} (hx : IsHash x) (hy : IsHash y) : IsHash (foldA wd x y) := by
  have h := sum_ok wd (2 :: toN x ++ toN y) (text_lt 2 _ _ (by decide) hx.toN.2.2 hy.toN.2.2)
  exact hV_is _ h.1 h.2
theorem rootA_is (wd : Int) (n : Nat) {x : Array Value} (hx : IsHash x) : IsHash (rootA wd n x) := by
  have h := sum_ok wd (3 :: bigN n 8 ++ toN x) (text_lt 3 _ _ (by decide) (bigN_lt _ _) hx.toN.2.2)
  exact hV_is _ h.1 h.2
theorem nodeA_calls (w : World) (wd : Int) {x y : Array Value} (hx : IsHash x) (hy : IsHash y) (hk : HIs w) : Calls Tryz.prog 79 #[.int .i64 wd, .agg x, .agg y] w (Res w [] (.agg (nodeA wd x y))) := by
  obtain ⟨e1, l1, b1⟩ := hx.toN
  obtain ⟨e2, l2, b2⟩ := hy.toN
  have := node_calls w wd _ _ l1 l2 b1 b2 hk
  rw [e1, e2] at this
  exact this
theorem foldA_calls (w : World) (wd : Int) {x y : Array Value} (hx : IsHash x) (hy : IsHash y) (hk : HIs w) : Calls Tryz.prog 81 #[.int .i64 wd, .agg x, .agg y] w (Res w [] (.agg (foldA wd x y))) := by
  obtain ⟨e1, l1, b1⟩ := hx.toN
  obtain ⟨e2, l2, b2⟩ := hy.toN
  have := fold_calls w wd _ _ l1 l2 b1 b2 hk
  rw [e1, e2] at this
  exact this
theorem rootA_calls (w : World) (wd : Int) (n : Nat) (hn : n < 18446744073709551616) {x : Array Value} (hx : IsHash x) (hk : HIs w) : Calls Tryz.prog 80 #[.int .i64 wd, .int .u64 n, .agg x] w (Res w [] (.agg (rootA wd n x))) := by
  obtain ⟨e1, l1, b1⟩ := hx.toN
  have := root_calls w wd n _ hn l1 b1 hk
  rw [e1] at this
  exact this

/-! The store's view. -/
structure NV where
  n : Nat
  node : Nat → Option (Array Value)
def NV.push (v : NV) (h : Array Value) : NV := ⟨v.n + 1, fun q => if q = v.n then some h else v.node q⟩
def NV.get (v : NV) (p : Nat) : Array Value := if p < v.n then (v.node p).getD zeroHash else zeroHash
def climb (wd : Int) : Nat → Nat → NV → Array Value → NV
  | 0, _, v, _ => v
  | k + 1, h, v, leaf => climb wd k (h + 1) (v.push (nodeA wd (v.get (v.n - 1 - (2 ^ (h + 1) - 1))) leaf)) (nodeA wd (v.get (v.n - 1 - (2 ^ (h + 1) - 1))) leaf)
def appV (wd : Int) (size : Nat) (v : NV) (leaf : Array Value) : NV := climb wd (t1 size) 0 (v.push leaf) leaf
def SS.view (s : SS) : NV := ⟨s.n, s.node⟩
theorem view_get (s : SS) (p : Nat) : s.view.get p = s.getH p := rfl
theorem t1_bit (n : Nat) : ∀ h, h < t1 n → n / 2 ^ h % 2 = 1 := by
  induction n using Nat.strongRecOn with
  | _ n ih =>
    intro h hh
    rcases two_cases n with ⟨k, rfl⟩ | ⟨k, rfl⟩
    · rw [t1_even] at hh; omega
    · rw [t1_odd] at hh
      cases h with
      | zero => simp
      | succ h =>
        have := ih k (by omega) h (by omega)
        rw [Nat.pow_succ, Nat.mul_comm (2 ^ h) 2, ← Nat.div_div_eq_div_mul, show (2 * k + 1) / 2 = k from by omega]
        exact this
theorem t1_end (n : Nat) : n / 2 ^ t1 n % 2 = 0 := by
  induction n using Nat.strongRecOn with
  | _ n ih =>
    rcases two_cases n with ⟨k, rfl⟩ | ⟨k, rfl⟩
    · rw [t1_even]; simp
    · rw [t1_odd, Nat.add_comm 1, Nat.pow_succ, Nat.mul_comm (2 ^ t1 k) 2, ← Nat.div_div_eq_div_mul, show (2 * k + 1) / 2 = k from by omega]
      exact ih k (by omega)
theorem t1_pow_le (n : Nat) : 2 ^ t1 n ≤ n + 1 := by
  induction n using Nat.strongRecOn with
  | _ n ih =>
    rcases two_cases n with ⟨k, rfl⟩ | ⟨k, rfl⟩
    · rw [t1_even]; simp
    · rw [t1_odd, Nat.add_comm 1, Nat.pow_succ]
      have := ih k (by omega)
      omega
theorem t1_le (n : Nat) (h : n < 4611686018427387904) : t1 n ≤ 62 := by
  have := t1_pow_le n
  rcases Nat.lt_or_ge 62 (t1 n) with q | q
  · have h2 := Nat.pow_le_pow_right (show 0 < 2 from by omega) q
    have : (2 : Nat) ^ (62 + 1) = 9223372036854775808 := by decide
    omega
  · exact q

/-! A tree in memory. -/
structure TS where
  s : SS
  sb : Nat
  wd : Int
  size : Nat
def TS.foot (t : TS) (b : Nat) : List Nat := b :: t.s.foot t.sb
structure TrIs (w : World) (b : Nat) (t : TS) : Prop where
  mem : w.heap[b]? = some (.cells #[.pointer (some ⟨t.sb, 0, none⟩), .int .i64 t.wd, .int .u64 t.size] 131 (0, 0))
  st : StIs w t.sb t.s
  apart : b ∉ t.s.foot t.sb
  low : ∀ k ∈ t.foot b, 2 < k ∧ 0 < k
  wd : 1 ≤ t.wd ∧ t.wd ≤ 32
theorem TrIs.chg {w w' : World} {b : Nat} {t : TS} {F : List Nat} (h : TrIs w b t) (hc : Chg F w w') (hF : ∀ k ∈ t.foot b, k ∉ F) : TrIs w' b t :=
  ⟨hc.at h.mem (hF b (by simp [TS.foot])), h.st.chg hc (fun k hk => hF k (by simp [TS.foot, hk])), h.apart, h.low, h.wd⟩
theorem TrIs.chg0 {w w' : World} {b : Nat} {t : TS} (h : TrIs w b t) (hc : Chg [] w w') : TrIs w' b t := h.chg hc (by simp)
theorem TrIs.lt {w : World} {b : Nat} {t : TS} (h : TrIs w b t) : ∀ k ∈ t.foot b, k < w.heap.size := by
  intro k hk
  simp only [TS.foot, List.mem_cons] at hk
  rcases hk with rfl | hk
  · exact blk_lt h.mem
  · exact h.st.lt k hk
def widthI (w : Int) : Int := min (max w 1) 32
def NewTP (w : World) (wd : Int) (log : Nat) (e : Ending) (w' : World) : Prop :=
  ∃ b t, e = .returned (.tuple #[.pointer (some ⟨b, 0, none⟩), .int .i64 0]) ∧ TrIs w' b t ∧ Chg [] w w' ∧ (∀ k ∈ t.foot b, w.heap.size ≤ k) ∧ t.wd = widthI wd ∧ t.size = 0 ∧ t.s.n = 0 ∧ t.s.cks = [] ∧ t.s.pins = [] ∧ t.s.log = log
theorem tnew_fin {w w1 : World} {sb log : Nat} {s : SS} (wd x : Int) (hk : HIs w) (h1 : StIs w1 sb s) (h2 : Chg [] w w1) (h3 : ∀ k ∈ s.foot sb, w.heap.size ≤ k) (h4 : s.log = log) (h5 : s.n = 0) (h6 : s.cks = []) (h7 : s.pins = []) (hx : x = widthI wd) :
    NewTP w wd log (.returned (.tuple #[.pointer (some ⟨w1.heap.size, 0, none⟩), .int .i64 0])) (w1.alloc (.cells #[.pointer (some ⟨sb, 0, none⟩), .int .i64 x, .int .u64 0] 131)) := by
  have hlt := hk.lt
  have hc : Chg [] w1 (w1.alloc (.cells #[.pointer (some ⟨sb, 0, none⟩), .int .i64 x, .int .u64 0] 131)) := (Chg.refl _ _).alloc _
  refine ⟨w1.heap.size, ⟨s, sb, x, 0⟩, rfl, ⟨blk_new w1 _, h1.chg0 hc, fun hm => ?_, ?_, ?_⟩, h2.nil_trans hc, ?_, hx, rfl, h5, h6, h7, h4⟩
  · have := h1.lt _ hm; omega
  · intro k hk
    simp only [TS.foot, List.mem_cons] at hk
    have hs := h2.size
    rcases hk with rfl | hk
    · omega
    · have := h3 k hk; omega
  · show 1 ≤ x ∧ x ≤ 32
    rw [hx]
    unfold widthI
    omega
  · intro k hk
    simp only [TS.foot, List.mem_cons] at hk
    have hs := h2.size
    rcases hk with rfl | hk
    · exact hs
    · exact h3 k hk
set_option maxRecDepth 100000 in
theorem tnew_ok (w : World) (wd : Int) (hwd : -9223372036854775808 ≤ wd ∧ wd < 9223372036854775808) (log : Nat) (hl : log ≤ 16) (hk : HIs w) : Calls Tryz.prog 13 #[.int .i64 wd, .int .i64 log] w (NewTP w wd log) := by
  have hnew := new_ok log w hl
  have hlt := hk.lt
  go_enter Tryz.func13, Tryz.ntmps13
  go_wp2_with (go_at_call 76; refine hnew.mono ?_; rintro e w1 ⟨sb, s, rfl, h1, h2, h3, h4, h5, h6, h7⟩)
  all_goals
    go_ret2
    exact tnew_fin wd _ hk h1 h2 h3 h4 h5 h6 h7 (by unfold widthI; omega)
set_option maxRecDepth 100000 in
theorem tnew_bad (w : World) (wd log : Int) (hl : log < 0 ∨ 16 < log) : Calls Tryz.prog 13 #[.int .i64 wd, .int .i64 log] w (Res w [] (.tuple #[.pointer none, .int .i64 1])) := by
  have hnew := new_bad log w hl
  go_enter Tryz.func13, Tryz.ntmps13
  go_wp2_with (go_at_call 76; refine hnew.mono ?_; rintro e w1 ⟨rfl, hc⟩)
  go_ret2
  exact ⟨rfl, hc⟩
end Go.Proofs.YtpklkefnmoaaaaaGreatDoor

/- Rows of hashes of the call's own. -/
namespace Go.Proofs.YtpklkefnmoaaaaaGreatDoor
open Go.RowKit
set_option linter.unusedVariables false
set_option linter.unusedSimpArgs false

@[go_sem ↓] theorem hold_bs_Hash (n : Nat) (ps : Array (Nat × Value)) : Instr.buildSlice 39 n ps = bsX 39 n ps := rfl
theorem u_hashes : Tryz.prog.underlying 39 = some (.slice 36) := by kernel_rfl
theorem i_Hash : (Tryz.prog.info? 36).map (fun i => (i.zero, i.size, i.bytes)) = some (some (.agg zeroHash), 32, 32) := by kernel_rfl
@[go_sem] theorem bs_Hash (cs : Array Value) (hs : cs.size = 32) (w : World) : (bsX 39 1 #[(0, .agg cs)]).run Tryz.prog w = .ok (.slice (some ⟨w.heap.size, 0, none⟩) 1 1) (w.alloc (.cells cs 36)) := by
  obtain ⟨i, hi, hz, hsz, _⟩ := infoOf i_Hash
  unfold bsX Instr.buildSlice
  have h32 : zeroHash.size = 32 := zeroHash_size
  have hso : ∀ w, (sizeOf 36).run Tryz.prog w = .ok 32 w := by intro w; simp [sizeOf, typeInfo, hi, hsz]
  simp only [Sem.run_bind, run_underlying u_hashes, Result.andThen_ok, hso, zv_Hash, Sem.run_ite, Nat.one_mul, Sem.run_pure]
  simp only [show ¬ (32 > 2 ^ 24) from by decide, show ¬ (32 = 0) from by decide, if_false, Result.andThen_ok, Value.cells]
  rw [fill_part _ _ 0 0 32 (.agg cs) _ rfl (by simpa [Value.cells] using hs) (by simp)]
  have e : ((((Array.range 32).map fun x => zeroHash[x % zeroHash.size]!).toList.take 0 ++ (Value.agg cs).cells.toList ++ ((Array.range 32).map fun x => zeroHash[x % zeroHash.size]!).toList.drop (0 + 32)).toArray) = cs := by
    apply Array.toList_inj.1
    simp [Value.cells]
  rw [e]
  rfl
def HOwn (w : World) (B : Nat) (v : Value) (hs : List (Array Value)) : Prop := w.ownsRow B 36 32 v hs.length (hs.flatMap (·.toList)) ∧ ∀ h ∈ hs, IsHash h
theorem HOwn.nil (w : World) (B : Nat) : HOwn w B (.slice none 0 0) [] := ⟨own_nil _ _ _ _, by simp⟩
theorem HOwn.chg {w w' : World} {B : Nat} {v : Value} {hs : List (Array Value)} {F : List Nat} (h : HOwn w B v hs) (hc : Chg F w w') (hF : ∀ k ∈ ob v, k ∉ F) : HOwn w' B v hs := ⟨own_chg h.1 hc hF, h.2⟩
theorem flat_length {hs : List (Array Value)} (h : ∀ x ∈ hs, IsHash x) : (hs.flatMap (·.toList)).length = hs.length * 32 := by
  induction hs with
  | nil => rfl
  | cons x hs ih =>
    rw [List.flatMap_cons, List.length_append, ih (fun y hy => h y (by simp [hy])), List.length_cons, Array.length_toList, (h x (by simp)).1]
    omega
theorem flat_at {hs : List (Array Value)} (h : ∀ x ∈ hs, IsHash x) : ∀ (i : Nat) (hi : i < hs.length) (j : Nat) (hj : j < 32), (hs.flatMap (·.toList))[i * 32 + j]? = (hs[i])[j]? := by
  induction hs with
  | nil => intro i hi; simp at hi
  | cons x hs ih =>
    intro i hi j hj
    have hx := (h x (by simp)).1
    rw [List.flatMap_cons]
    cases i with
    | zero =>
      rw [List.getElem?_append_left (by simp; omega)]
      simp
    | succ i =>
      rw [List.getElem?_append_right (by simp; omega), Array.length_toList, hx, show (i + 1) * 32 + j - 32 = i * 32 + j from by omega, ih (fun y hy => h y (by simp [hy])) i (by simpa using hi) j hj]
      simp
theorem HOwn.hs {w : World} {B : Nat} {v : Value} {hs : List (Array Value)} (h : HOwn w B v hs) : HsIs w v hs := by
  refine ⟨h.2, ?_⟩
  rcases h.1.2 with ⟨rfl, h0⟩ | ⟨g, cap, cur, rfl, hb, hh, hnc, hm, hcs, ht⟩
  · have : hs = [] := List.eq_nil_of_length_eq_zero h0
    subst this
    exact ⟨none, 0, rfl, .inl rfl⟩
  · refine ⟨_, cap, rfl, .inr ⟨g, 0, rfl, blk_lt hh, fun i hi => ?_⟩⟩
    have hx := h.2 hs[i] (List.getElem_mem hi)
    refine rng?_mk hx.1 fun j hj => ?_
    rw [hx.1] at hj
    refine blk_cell hh (0 + i * 32 + j) ?_
    have e := flat_at h.2 i hi j hj
    rw [← ht, List.getElem?_take] at e
    split at e
    · rw [Nat.zero_add, ← Array.getElem?_toList, e, Array.getElem?_eq_getElem]
    · rw [Array.getElem?_eq_getElem (by rw [hx.1]; exact hj)] at e
      cases e
theorem HOwn.push {w : World} {B : Nat} {v : Value} {l : List (Array Value)} (h : HOwn w B v l) (x : Array Value) (hx : IsHash x) (hlen : l.length ≤ 4294967296) (hB : B ≤ w.heap.size) (ty : TypeId) :
    ∃ v' w', (Builtin.append_ #[39, 39] ty #[v, .slice (some ⟨w.heap.size, 0, none⟩) 1 1]).run Tryz.prog (w.alloc (.cells x 36)) = .ok v' w' ∧ HOwn w' B v' (l ++ [x]) ∧ Chg (ob v) w w' ∧ (∀ k ∈ ob v', k ∈ ob v ∨ w.heap.size ≤ k) := by
  obtain ⟨i, hi, hz, hsz, hby⟩ := infoOf i_Hash
  have hc : Chg [] w (w.alloc (.cells x 36)) := (Chg.refl _ _).alloc _
  have h1 := own_chg h.1 hc (by simp)
  obtain ⟨v', w', hr, h2, h3, h4⟩ := run_append_any (P := Tryz.prog) (w.alloc (.cells x 36)) B 39 ty 36 i _ 32 32 u_hashes hi hz hsz hby zeroHash_size (by decide) v l.length _ h1 (some ⟨w.heap.size, 0, none⟩) 1 1 x.toList
    ⟨by rw [Array.length_toList, hx.1], fun _ => ⟨w.heap.size, 0, rfl, fun j u hu => by
      rw [Nat.zero_add]
      exact blk_cell (blk_new w _) j (by simpa using hu)⟩⟩ (fun u hu => by obtain ⟨n, rfl, _⟩ := hx.2 u hu; rfl) (by unfold maxLen; omega) (by omega) (by have := hc.size; omega)
  refine ⟨v', w', hr, ⟨?_, fun y hy => ?_⟩, hc.of_nil.trans h3 (fun k hk => .inl hk), fun k hk => ?_⟩
  · rw [List.length_append, List.flatMap_append]
    simpa using h2
  · rcases List.mem_append.1 hy with q | q
    · exact h.2 y q
    · rw [List.mem_singleton.1 q]; exact hx
  · rcases h4 k hk with q | q
    · exact .inl q
    · right; have := hc.size; omega
end Go.Proofs.YtpklkefnmoaaaaaGreatDoor

/- A tree: peaks, the root. -/
namespace Go.Proofs.YtpklkefnmoaaaaaGreatDoor
open Go.RowKit
set_option linter.unusedVariables false
set_option linter.unusedSimpArgs false

def TPeaksP (w : World) (s : SS) (ps : List Nat) (e : Ending) (w' : World) : Prop :=
  (∃ v, (∀ p ∈ ps, s.getE p = 0) ∧ e = .returned (.tuple #[v, .int .i64 0]) ∧ HOwn w' w.heap.size v (ps.map s.getH) ∧ Chg [] w w') ∨
  (∃ (i : Nat) (h : i < ps.length), (∀ j (hj : j < i), s.getE ps[j] = 0) ∧ s.getE ps[i] ≠ 0 ∧ e = .returned (.tuple #[.slice none 0 0, .int .i64 (s.getE ps[i])]) ∧ Chg [] w w')
theorem own_mono' {w : World} {base B : Nat} {e : TypeId} {size n : Nat} {v : Value} {xs : List Value} (h : w.ownsRow base e size v n xs) (hB : B ≤ base) : w.ownsRow B e size v n xs := by
  refine ⟨h.1, ?_⟩
  rcases h.2 with hv | ⟨g, cap, cur, hv, hb, hr⟩
  · exact .inl hv
  · exact .inr ⟨g, cap, cur, hv, by omega, hr⟩
theorem pkL_len (n c : Nat) : (pkL n c).length ≤ c := by
  unfold pkL
  rw [List.length_map]
  exact Nat.le_trans (List.length_filter_le _ _) (by simp)
theorem nodes_lt (n : Nat) (h : n ≤ 4611686018427387904) : nodesN n < 9223372036854775808 := by
  have h2 := nodes_mono (show n ≤ 2 ^ 62 from h)
  rw [nodes_pow0] at h2
  have h3 : (2 : Nat) ^ (62 + 1) = 9223372036854775808 := by decide
  omega
theorem UOwn.cells {w : World} {B : Nat} {v : Value} {l : List Nat} (h : UOwn w B v l) : ∃ a cap, v = .slice a l.length cap ∧ (l = [] ∨ ∃ b o, a = some ⟨b, o, none⟩ ∧ b < w.heap.size ∧ ∀ i (hi : i < l.length), w.cell? ⟨b, o + i, none⟩ = some (.int .u64 (l[i] : Nat))) := by
  rcases h.2 with ⟨rfl, h0⟩ | ⟨g, cap, cur, rfl, hb, hh, hnc, hm, hcs, ht⟩
  · have : l = [] := List.eq_nil_of_length_eq_zero h0
    subst this
    exact ⟨none, 0, rfl, .inl rfl⟩
  · refine ⟨_, cap, rfl, .inr ⟨g, 0, rfl, blk_lt hh, fun i hi => ?_⟩⟩
    rw [Nat.zero_add]
    refine blk_cell hh i ?_
    have e : (l.map fun (n : Nat) => Value.int .u64 (n : Int))[i]? = some (.int .u64 (l[i] : Nat)) := by simp [hi]
    rw [← ht, List.getElem?_take] at e
    split at e
    · simpa using e
    · cases e
set_option maxRecDepth 100000 in
set_option maxHeartbeats 4000000 in
theorem tpeaks_calls (w : World) (b : Nat) (t : TS) (n : Nat) (ht : TrIs w b t) (hn : n ≤ 4611686018427387904) :
    Calls Tryz.prog 128 #[.pointer (some ⟨b, 0, none⟩), .int .u64 n] w (TPeaksP w t.s (peaksN n)) := by
  have hpl := peaksl_calls n hn w
  have hplt : ∀ p ∈ peaksN n, p < 18446744073709551616 := fun p hp => by have := peaks_lt n p hp; have := nodes_lt n hn; omega
  have hpll : (peaksN n).length ≤ 63 := pkL_len n 63
  go_enter Tryz.func128, Tryz.ntmps128
  go_wp2_with (go_at_call 42; refine hpl.mono ?_; rintro e w1 ⟨pv, rfl, hU, hc1⟩; obtain ⟨pa, pcap, rfl, hpc⟩ := hU.cells)
  generalize peaksN n = ps at *
  clear hpl hU
  obtain ⟨w0, rfl⟩ : ∃ w0 : World, w0 = w := ⟨_, rfl⟩
  go_loopg [14, 6] ps.length (fun g ii vv wx => ∃ i : Nat, i ≤ ps.length ∧ g = ps.length - i ∧ ii = .int .i64 i ∧ HOwn wx w1.heap.size vv ((ps.take i).map t.s.getH) ∧ (∀ p ∈ ps.take i, t.s.getE p = 0) ∧ Chg [] w1 wx)
  case atStart => exact ⟨0, by omega, by omega, rfl, HOwn.nil _ _, by simp, Chg.refl _ _⟩
  case round =>
    obtain ⟨i, hi, hg, rfl, hO, hE, hC1⟩ := hrel
    have hC := hc1.nil_trans hC1
    by_cases hlt : i < ps.length
    · have hlt' : i < ps.length := hlt
      rcases hpc with hpc | ⟨pb, po, rfl, hpb, hpc⟩
      · subst hpc; simp at hlt'
      have hcell := (hC1.cell (p := ⟨pb, po + i, none⟩) hpb (by simp)).trans (hpc i hlt')
      have hbl := World.block_lt_of_cell? _ _ hcell
      have htk : ps.take (i + 1) = ps.take i ++ [ps[i]] := List.take_succ_eq_append_getElem hlt'
      have htr := ht.chg0 hC
      have c0 := blk_cell htr.mem 0 rfl
      have hbr := blk_lt htr.mem
      have hget := fun (W : World) (hc : Chg [] wr W) => get_calls t.sb ps[i] t.s W (htr.st.chg0 hc) (hplt _ (List.getElem_mem hlt'))
      have hgi := IsHash.getH htr.st ps[i]
      have hH1 := hgi.1
      have hH2 := hgi.one
      have hpush := fun (W : World) (hc : Chg [] wr W) => (hO.chg hc (by simp)).push (t.s.getH ps[i]) hgi (by rw [List.length_map, List.length_take]; omega) (by have := hC1.size; have := hc.size; omega) 39
      have hj : ∀ j (hj : j < i), t.s.getE ps[j] = 0 := fun j hj => hE _ (by have := List.getElem_mem (l := ps.take i) (n := j) (by rw [List.length_take]; omega); rwa [List.getElem_take] at this)
      by_cases hE0 : t.s.getE ps[i] = 0
      · have hE2 : ∀ p ∈ ps.take (i + 1), t.s.getE p = 0 := fun p hp => by
          rw [htk] at hp
          rcases List.mem_append.1 hp with q | q
          · exact hE p q
          · rw [List.mem_singleton.1 q]; exact hE0
        rw [hE0] at hget
        have hmap : (ps.take (i + 1)).map t.s.getH = (ps.take i).map t.s.getH ++ [t.s.getH ps[i]] := by rw [htk, List.map_append]; rfl
        have HM := Lib.hid hmap
        have HE2 := Lib.hid hE2
        have HP := Lib.hid hpush
        have HO := Lib.hid hO
        have HPC := Lib.hid hpc
        clear htk hmap hE hE2 hpush hO hgi hplt hpc hj hE0 htr
        generalize ps[i] = p at *
        generalize t.s.getH p = H at *
        go_upto_region 8 with (go_at_call 104; refine (hget _ (Chg.refl _ _)).mono ?_; rintro e w3 ⟨rfl, hc3⟩)
        have hcW : Chg [] wr (w3.alloc (.cells H 36)) := hc3.alloc _
        obtain ⟨v2, w2, hrun, hO2, hc2, hob⟩ := HP.out _ hcW
        have hol := own_lt (HO.out.chg hcW (by simp)).1
        have HW : Chg [] w1 w2 := (hC1.nil_trans hcW).trans hc2 (fun k hk => .inr (hol k hk).1)
        have HO2 := Lib.hid hO2
        rw [World.size_alloc] at hrun
        clear hO2 hc2 hob hcW hol hc3 hget
        go_wp2_with (at_builtin; refine Lib.wpList_append_run _ rfl _ _ _ _ rfl _ _ rfl rfl _ _ hrun ?_)
        go_roundg (ps.length - (i + 1))
        case measure => omega
        case rel => exact ⟨i + 1, by omega, rfl, by go_num, by rw [HM.out]; exact HO2.out, HE2.out, HW⟩
      · have hne : (t.s.getE ps[i] != 0) = true := by rw [bne_iff_ne]; exact hE0
        have hfin : ∀ W, Chg [] w0 W → TPeaksP w0 t.s ps (.returned (.tuple #[.slice none 0 0, .int .i64 (t.s.getE ps[i])])) W := fun W hW => .inr ⟨i, hlt', hj, hE0, rfl, hW⟩
        have HF := Lib.hid hfin
        clear htk hE hpush hO hgi hplt hpc hj hE0 htr hfin
        generalize ps[i] = p at *
        generalize t.s.getH p = H at *
        generalize t.s.getE p = E at *
        go_wp2_with (go_at_call 104; refine (hget _ (Chg.refl _ _)).mono ?_; rintro e w3 ⟨rfl, hc3⟩)
        go_ret2
        exact HF.out _ (hC.nil_trans (hc3.alloc _))
    · obtain rfl : i = ps.length := by omega
      rw [List.take_length] at hO hE
      clear hg hpc
      go_wp2
      go_ret2
      exact .inl ⟨_, hE, rfl, ⟨own_mono' hO.1 hc1.size, hO.2⟩, hC⟩
end Go.Proofs.YtpklkefnmoaaaaaGreatDoor

/- The hash: the texts and their hashes. -/
import Derived.Test.YtnodjlgihhinpaaDoorHaI
namespace Go.Proofs.YtnodjlgihhinpaaDoor
open Go.RowKit
set_option linter.unusedVariables false
set_option linter.unusedSimpArgs false

theorem hash_bs {W : World} {b : Nat} {l : List Nat} {t : TypeId} (h : W.heap[b]? = some (.cells (hV l) t (0, 0))) (hl : l.length = 32) (hb : ∀ x ∈ l, x < 256) : BsIs W (.slice (some ⟨b, 0, none⟩) 32 32) l :=
  ⟨hb, some ⟨b, 0, none⟩, 32, by rw [hl], by omega, by unfold maxLen; omega, .inr ⟨b, 0, rfl, blk_lt h, fun i hi => by
    rw [Nat.zero_add]
    refine blk_cell h i ?_
    rw [hV_at _ _ hi, List.getD_eq_getElem?_getD, List.getElem?_eq_getElem hi]
    rfl⟩⟩
theorem one_bs {W : World} {b c : Nat} (h : W.heap[b]? = some (.cells #[.int .u8 c] 5 (0, 0))) (hc : c < 256) : BsIs W (.slice (some ⟨b, 0, none⟩) 1 1) [c] :=
  ⟨by simpa using hc, some ⟨b, 0, none⟩, 1, rfl, Nat.le_refl _, by unfold maxLen; omega, .inr ⟨b, 0, rfl, blk_lt h, fun i hi => by
    have : i = 0 := by simp at hi; omega
    subst this
    exact blk_cell h 0 rfl⟩⟩
theorem text3 (W : World) (v1 v2 : Value) (x y c : Nat) (l r : List Nat) (hc : c < 256) (h1 : BsIs W v1 l) (h2 : BsIs W v2 r) (hl : l.length + r.length ≤ 1000000)
    (hx : W.heap[x]? = some (.cells #[.int .u8 c] 5 (0, 0))) (hy : W.heap[y]? = some (.cells #[.slice (some ⟨x, 0, none⟩) 1 1, v1, v2] 84 (0, 0))) :
    Calls Tryd.prog 78 #[.slice (some ⟨y, 0, none⟩) 3 3] W (ConcatP W (c :: l ++ r)) := by
  have hp : Parts W y 0 [(.slice (some ⟨x, 0, none⟩) 1 1, [c]), (v1, l), (v2, r)] := by
    intro i hi
    rw [Nat.zero_add]
    match i, hi with
    | 0, _ => exact ⟨blk_cell hy 0 rfl, one_bs hx hc⟩
    | 1, _ => exact ⟨blk_cell hy 1 rfl, h1⟩
    | 2, _ => exact ⟨blk_cell hy 2 rfl, h2⟩
    | i + 3, h => simp at h; omega
  have hs : sumL [(Value.slice (some ⟨x, 0, none⟩) 1 1, [c]), (v1, l), (v2, r)] 3 = 1 + (l.length + r.length) := by simp [sumL]
  have := concat_calls W y 0 3 _ hp (by simp only [List.length_cons, List.length_nil]; rw [hs]; omega) (by simp only [List.length_cons, List.length_nil]; rw [hs]; omega) (by simp)
  have e : catL [(Value.slice (some ⟨x, 0, none⟩) 1 1, [c]), (v1, l), (v2, r)] 3 = c :: l ++ r := by simp [catL]
  simp only [List.length_cons, List.length_nil] at this
  rw [e] at this
  exact this
theorem sum1 (W : World) (wd : Int) (v : Value) (y : Nat) (l : List Nat) (h1 : BsIs W v l) (hl : l.length ≤ 1099511627776) (hk : HIs W) (hy : W.heap[y]? = some (.cells #[v] 84 (0, 0))) :
    Calls Tryd.prog 38 #[.int .i64 wd, .slice (some ⟨y, 0, none⟩) 1 1] W (HashP W (sumN wd l)) := by
  have hp : Parts W y 0 [(v, l)] := by
    intro i hi
    rw [Nat.zero_add]
    match i, hi with
    | 0, _ => exact ⟨blk_cell hy 0 rfl, h1⟩
    | i + 1, h => simp at h
  have hs : sumL [(v, l)] 1 = l.length := by simp [sumL]
  have := sum_calls W wd y 0 1 _ hp (by simp only [List.length_cons, List.length_nil]; rw [hs]; exact hl) (by simp) hk
  have e : catL [(v, l)] 1 = l := by simp [catL]
  simp only [List.length_cons, List.length_nil] at this
  rw [e] at this
  exact this

def TextP (w : World) (l : List Nat) (e : Ending) (w' : World) : Prop := ∃ v, e = .returned v ∧ BsIs w' v l ∧ (∀ k, k < w.heap.size → OffB v k) ∧ Chg [] w w'
set_option maxRecDepth 100000 in
set_option maxHeartbeats 4000000 in
theorem nodetext_calls (w : World) (l r : List Nat) (hl : l.length = 32) (hr : r.length = 32) (hlb : ∀ x ∈ l, x < 256) (hrb : ∀ x ∈ r, x < 256) :
    Calls Tryd.prog 39 #[.agg (hV l), .agg (hV r)] w (TextP w (1 :: l ++ r)) := by
  have hall : ∀ x ∈ (1 :: l ++ r), x < 256 := by
    intro x hx
    simp only [List.cons_append, List.mem_cons, List.mem_append] at hx
    rcases hx with rfl | hx | hx
    · decide
    · exact hlb x hx
    · exact hrb x hx
  have h0 : ((w.alloc (.cells (hV l) 37)).alloc (.cells (hV r) 37)).heap[w.heap.size]? = some (.cells (hV l) 37 (0, 0)) := blk_alloc (blk_new w _) _
  have h1 : ((w.alloc (.cells (hV l) 37)).alloc (.cells (hV r) 37)).heap[w.heap.size + 1]? = some (.cells (hV r) 37 (0, 0)) := by
    have := blk_new (w.alloc (.cells (hV l) 37)) (.cells (hV r) 37)
    rw [World.size_alloc] at this
    exact this
  have hc0 : Chg [] w ((w.alloc (.cells (hV l) 37)).alloc (.cells (hV r) 37)) := ((Chg.refl _ _).alloc _).alloc _
  have hz0 : ((w.alloc (.cells (hV l) 37)).alloc (.cells (hV r) 37)).heap.size = w.heap.size + 2 := by simp
  go_enter Tryd.func39, Tryd.ntmps39
  go_upto_region 1 with (fail)
  generalize (w.alloc (.cells (hV l) 37)).alloc (.cells (hV r) 37) = w2 at *
  have hb1 := hash_bs h0 hl hlb
  have hb2 := hash_bs h1 hr hrb
  have hcw : ∀ o o' : Obj, Chg [] w2 ((w2.alloc o).alloc o').drew := fun o o' => (((Chg.refl _ _).alloc _).alloc _).drew
  have hcon := text3 ((w2.alloc (.cells #[.int .u8 1] 5)).alloc (.cells #[.slice (some ⟨w2.heap.size, 0, none⟩) 1 1, .slice (some ⟨w.heap.size, 0, none⟩) 32 32, .slice (some ⟨w.heap.size + 1, 0, none⟩) 32 32] 84)).drew
    (.slice (some ⟨w.heap.size, 0, none⟩) 32 32) (.slice (some ⟨w.heap.size + 1, 0, none⟩) 32 32) w2.heap.size (w2.heap.size + 1) 1 l r (by decide) (hb1.chg0 (hcw _ _)) (hb2.chg0 (hcw _ _)) (by omega)
    (blk_drew (blk_alloc (blk_new w2 _) _)) (by
      have := blk_new (w2.alloc (.cells #[.int .u8 1] 5)) (.cells #[.slice (some ⟨w2.heap.size, 0, none⟩) 1 1, .slice (some ⟨w.heap.size, 0, none⟩) 32 32, .slice (some ⟨w.heap.size + 1, 0, none⟩) 32 32] 84)
      rw [World.size_alloc] at this
      exact blk_drew this)
  have hcw2 := hcw (.cells #[.int .u8 1] 5) (.cells #[.slice (some ⟨w2.heap.size, 0, none⟩) 1 1, .slice (some ⟨w.heap.size, 0, none⟩) 32 32, .slice (some ⟨w.heap.size + 1, 0, none⟩) 32 32] 84)
  have hsz := hcw2.size
  have hle : w.heap.size ≤ w2.heap.size := by omega
  clear hcw hb1 hb2 h0 h1 hz0
  have HA := Lib.hid hall
  have HCON := Lib.hid hcon
  clear hcon
  clear hall hl hr hlb hrb
  go_region_with (go_at_call 78; refine HCON.out.mono ?_; rintro e w3 ⟨v, rfl, hv, hc3⟩)
  all_goals
    go_wp2
    go_ret
    exact ⟨_, rfl, hv.bs HA.out, fun k hk => hv.off (by omega), (hc0.nil_trans hcw2).nil_trans hc3⟩
set_option maxRecDepth 100000 in
set_option maxHeartbeats 4000000 in
theorem foldtext_calls (w : World) (l r : List Nat) (hl : l.length = 32) (hr : r.length = 32) (hlb : ∀ x ∈ l, x < 256) (hrb : ∀ x ∈ r, x < 256) :
    Calls Tryd.prog 52 #[.agg (hV l), .agg (hV r)] w (TextP w (2 :: l ++ r)) := by
  have hall : ∀ x ∈ (2 :: l ++ r), x < 256 := by
    intro x hx
    simp only [List.cons_append, List.mem_cons, List.mem_append] at hx
    rcases hx with rfl | hx | hx
    · decide
    · exact hlb x hx
    · exact hrb x hx
  have h0 : ((w.alloc (.cells (hV l) 37)).alloc (.cells (hV r) 37)).heap[w.heap.size]? = some (.cells (hV l) 37 (0, 0)) := blk_alloc (blk_new w _) _
  have h1 : ((w.alloc (.cells (hV l) 37)).alloc (.cells (hV r) 37)).heap[w.heap.size + 1]? = some (.cells (hV r) 37 (0, 0)) := by
    have := blk_new (w.alloc (.cells (hV l) 37)) (.cells (hV r) 37)
    rw [World.size_alloc] at this
    exact this
  have hc0 : Chg [] w ((w.alloc (.cells (hV l) 37)).alloc (.cells (hV r) 37)) := ((Chg.refl _ _).alloc _).alloc _
  have hz0 : ((w.alloc (.cells (hV l) 37)).alloc (.cells (hV r) 37)).heap.size = w.heap.size + 2 := by simp
  go_enter Tryd.func52, Tryd.ntmps52
  go_upto_region 1 with (fail)
  generalize (w.alloc (.cells (hV l) 37)).alloc (.cells (hV r) 37) = w2 at *
  have hb1 := hash_bs h0 hl hlb
  have hb2 := hash_bs h1 hr hrb
  have hcw : ∀ o o' : Obj, Chg [] w2 ((w2.alloc o).alloc o').drew := fun o o' => (((Chg.refl _ _).alloc _).alloc _).drew
  have hcon := text3 ((w2.alloc (.cells #[.int .u8 2] 5)).alloc (.cells #[.slice (some ⟨w2.heap.size, 0, none⟩) 1 1, .slice (some ⟨w.heap.size, 0, none⟩) 32 32, .slice (some ⟨w.heap.size + 1, 0, none⟩) 32 32] 84)).drew
    (.slice (some ⟨w.heap.size, 0, none⟩) 32 32) (.slice (some ⟨w.heap.size + 1, 0, none⟩) 32 32) w2.heap.size (w2.heap.size + 1) 2 l r (by decide) (hb1.chg0 (hcw _ _)) (hb2.chg0 (hcw _ _)) (by omega)
    (blk_drew (blk_alloc (blk_new w2 _) _)) (by
      have := blk_new (w2.alloc (.cells #[.int .u8 2] 5)) (.cells #[.slice (some ⟨w2.heap.size, 0, none⟩) 1 1, .slice (some ⟨w.heap.size, 0, none⟩) 32 32, .slice (some ⟨w.heap.size + 1, 0, none⟩) 32 32] 84)
      rw [World.size_alloc] at this
      exact blk_drew this)
  have hcw2 := hcw (.cells #[.int .u8 2] 5) (.cells #[.slice (some ⟨w2.heap.size, 0, none⟩) 1 1, .slice (some ⟨w.heap.size, 0, none⟩) 32 32, .slice (some ⟨w.heap.size + 1, 0, none⟩) 32 32] 84)
  have hsz := hcw2.size
  have hle : w.heap.size ≤ w2.heap.size := by omega
  clear hcw hb1 hb2 h0 h1 hz0
  have HA := Lib.hid hall
  have HCON := Lib.hid hcon
  clear hcon
  clear hall hl hr hlb hrb
  go_region_with (go_at_call 78; refine HCON.out.mono ?_; rintro e w3 ⟨v, rfl, hv, hc3⟩)
  all_goals
    go_wp2
    go_ret
    exact ⟨_, rfl, hv.bs HA.out, fun k hk => hv.off (by omega), (hc0.nil_trans hcw2).nil_trans hc3⟩
set_option maxRecDepth 100000 in
theorem roottext_calls (w : World) (n : Nat) (l : List Nat) (hn : n < 18446744073709551616) (hl : l.length = 32) (hlb : ∀ x ∈ l, x < 256) :
    Calls Tryd.prog 51 #[.int .u64 n, .agg (hV l)] w (TextP w (3 :: bigN n 8 ++ l)) := by
  have hall : ∀ x ∈ (3 :: bigN n 8 ++ l), x < 256 := by
    intro x hx
    simp only [List.cons_append, List.mem_cons, List.mem_append] at hx
    rcases hx with rfl | hx | hx
    · decide
    · exact bigN_lt _ _ x hx
    · exact hlb x hx
  have hbig := big_calls (w.alloc (.cells (hV l) 37)) n 8 (.inr rfl) (by simpa using hn)
  have hz : (w.alloc (.cells (hV l) 37)).heap.size = w.heap.size + 1 := by simp
  rw [hz] at hbig
  go_enter Tryd.func51, Tryd.ntmps51
  go_upto_region 2 with (go_at_call 85; refine hbig.mono ?_; rintro e w1 ⟨rfl, hB, hc⟩)
  have hC : Chg [] w w1 := ((Chg.refl [] w).alloc _).nil_trans hc
  have h0 : w1.heap[w.heap.size]? = some (.cells (hV l) 37 (0, 0)) := hc.at (blk_new w _) (by simp)
  have hb2 := hash_bs h0 hl hlb
  have hb1 : BsIs w1 (.slice (some ⟨w.heap.size + 1, 0, none⟩) 8 8) (bigN n 8) :=
    ⟨bigN_lt _ _, some ⟨w.heap.size + 1, 0, none⟩, 8, by rw [bigN_length], by rw [bigN_length]; omega, by unfold maxLen; omega, .inr ⟨w.heap.size + 1, 0, rfl, blk_lt hB.cells, fun i hi => by
      rw [Nat.zero_add]
      refine blk_cell hB.cells i ?_
      rw [hV_at _ _ hi, List.getD_eq_getElem?_getD, List.getElem?_eq_getElem hi]
      rfl⟩⟩
  have hcw : ∀ o o' : Obj, Chg [] w1 ((w1.alloc o).alloc o') := fun o o' => ((Chg.refl _ _).alloc _).alloc _
  have hcon := text3 ((w1.alloc (.cells #[.int .u8 3] 5)).alloc (.cells #[.slice (some ⟨w1.heap.size, 0, none⟩) 1 1, .slice (some ⟨w.heap.size + 1, 0, none⟩) 8 8, .slice (some ⟨w.heap.size, 0, none⟩) 32 32] 84))
    (.slice (some ⟨w.heap.size + 1, 0, none⟩) 8 8) (.slice (some ⟨w.heap.size, 0, none⟩) 32 32) w1.heap.size (w1.heap.size + 1) 3 (bigN n 8) l (by decide) (hb1.chg0 (hcw _ _)) (hb2.chg0 (hcw _ _)) (by rw [bigN_length]; omega)
    (blk_alloc (blk_new w1 _) _) (by
      have := blk_new (w1.alloc (.cells #[.int .u8 3] 5)) (.cells #[.slice (some ⟨w1.heap.size, 0, none⟩) 1 1, .slice (some ⟨w.heap.size + 1, 0, none⟩) 8 8, .slice (some ⟨w.heap.size, 0, none⟩) 32 32] 84)
      rw [World.size_alloc] at this
      exact this)
  have hcw2 := hcw (.cells #[.int .u8 3] 5) (.cells #[.slice (some ⟨w1.heap.size, 0, none⟩) 1 1, .slice (some ⟨w.heap.size + 1, 0, none⟩) 8 8, .slice (some ⟨w.heap.size, 0, none⟩) 32 32] 84)
  have hsz := hcw2.size
  have hsz1 := hC.size
  have hbl := blk_lt h0
  have hbl2 := blk_lt hB.cells
  have HA := Lib.hid hall
  clear hcw hb1 hb2 h0 hz hB hall hl hlb hbig
  go_wp2_with (go_at_call 78; refine hcon.mono ?_; rintro e w3 ⟨v, rfl, hv, hc3⟩)
  go_ret
  exact ⟨_, rfl, hv.bs HA.out, fun k hk => hv.off (by omega), (hC.nil_trans hcw2).nil_trans hc3⟩
theorem TextP.size {w w' : World} (h : Chg [] w w') : w.heap.size ≤ w'.heap.size := h.size
theorem BsIs.form {w : World} {v : Value} {l : List Nat} (h : BsIs w v l) : ∃ a n cap, v = .slice a n cap := by
  obtain ⟨h1, a, cap, hv, _⟩ := h
  exact ⟨a, _, cap, hv⟩
def nodeN (wd : Int) (l r : List Nat) : List Nat := sumN wd (1 :: l ++ r)
def foldN (wd : Int) (l r : List Nat) : List Nat := sumN wd (2 :: l ++ r)
def rootN (wd : Int) (n : Nat) (l : List Nat) : List Nat := sumN wd (3 :: bigN n 8 ++ l)
theorem text_lt (c : Nat) (l r : List Nat) (hc : c < 256) (hl : ∀ x ∈ l, x < 256) (hr : ∀ x ∈ r, x < 256) : ∀ x ∈ (c :: l ++ r), x < 256 := by
  intro x hx
  simp only [List.cons_append, List.mem_cons, List.mem_append] at hx
  rcases hx with rfl | hx | hx
  · exact hc
  · exact hl x hx
  · exact hr x hx
set_option maxRecDepth 100000 in
theorem node_calls (w : World) (wd : Int) (l r : List Nat) (hl : l.length = 32) (hr : r.length = 32) (hlb : ∀ x ∈ l, x < 256) (hrb : ∀ x ∈ r, x < 256) (hk : HIs w) :
    Calls Tryd.prog 19 #[.int .i64 wd, .agg (hV l), .agg (hV r)] w (HashP w (nodeN wd l r)) := by
  have hsl := (sum_ok wd (1 :: l ++ r) (text_lt 1 l r (by decide) hlb hrb)).1
  have htx := fun W => nodetext_calls W l r hl hr hlb hrb
  have hll : (1 :: l ++ r).length ≤ 1099511627776 := by simp; omega
  have hc0 : Chg [] w (((w.alloc (.cells (hV l) 37)).alloc (.cells (hV r) 37)).alloc (.cells zeroHash 37)) := (((Chg.refl _ _).alloc _).alloc _).alloc _
  have hm0 : may (((w.alloc (.cells (hV l) 37)).alloc (.cells (hV r) 37)).alloc (.cells zeroHash 37)) (w.heap.size + 2) 0 32 = true := by
    have := may_alloc_at ((w.alloc (.cells (hV l) 37)).alloc (.cells (hV r) 37)) _ 32 zeroHash 37 rfl zeroHash_size
    simpa using this
  have HK := Lib.hid hk
  clear hlb hrb hk
  go_enter Tryd.func19, Tryd.ntmps19
  go_wp2_with (go_at_call 39; refine (htx _).mono ?_; rintro e w1 ⟨v, rfl, hv, hvo, hc1⟩; obtain ⟨va, vn, vc, rfl⟩ := hv.form)
  have hm1 := may_chg hc1 hm0 (by omega) (by simp)
  have hC1 := hc0.nil_trans hc1
  have hsu := sum1 (w1.alloc (.cells #[.slice va vn vc] 84)) wd (.slice va vn vc) w1.heap.size _ (hv.chg0 ((Chg.refl [] w1).alloc _)) hll (HK.out.chg0 (hC1.alloc _)) (blk_new w1 _)
  have hm2 : may (w1.alloc (.cells #[.slice va vn vc] 84)) (w.heap.size + 2) 0 32 = true := may_chg ((Chg.refl [] w1).alloc _) hm1 (by omega) (by simp)
  have HSM : Shut (nodeN wd l r = sumN wd (1 :: l ++ r)) := ⟨rfl⟩
  generalize sumN wd (1 :: l ++ r) = sm at *
  go_at_call 38
  refine hsu.mono ?_
  rintro e w3 ⟨rfl, hc3⟩
  have hm3 := may_chg hc3 hm2 (by omega) (by simp)
  go_wp2
  refine bodyPost_ret (res_Hash1 rfl _ _ rfl (rng?_setRng_same _ _ _ _ _ hm3 (by rw [hV_size]; exact hsl))) rfl ⟨by rw [HSM.out], ?_⟩
  exact Chg.setRng ((hC1.alloc _).nil_trans hc3) (.inr (by show w.heap.size ≤ w.heap.size + 2; omega)) _ _
set_option maxRecDepth 100000 in
theorem fold_calls (w : World) (wd : Int) (l r : List Nat) (hl : l.length = 32) (hr : r.length = 32) (hlb : ∀ x ∈ l, x < 256) (hrb : ∀ x ∈ r, x < 256) (hk : HIs w) :
    Calls Tryd.prog 30 #[.int .i64 wd, .agg (hV l), .agg (hV r)] w (HashP w (foldN wd l r)) := by
  have hsl := (sum_ok wd (2 :: l ++ r) (text_lt 2 l r (by decide) hlb hrb)).1
  have htx := fun W => foldtext_calls W l r hl hr hlb hrb
  have hll : (2 :: l ++ r).length ≤ 1099511627776 := by simp; omega
  have hc0 : Chg [] w (((w.alloc (.cells (hV l) 37)).alloc (.cells (hV r) 37)).alloc (.cells zeroHash 37)) := (((Chg.refl _ _).alloc _).alloc _).alloc _
  have hm0 : may (((w.alloc (.cells (hV l) 37)).alloc (.cells (hV r) 37)).alloc (.cells zeroHash 37)) (w.heap.size + 2) 0 32 = true := by
    have := may_alloc_at ((w.alloc (.cells (hV l) 37)).alloc (.cells (hV r) 37)) _ 32 zeroHash 37 rfl zeroHash_size
    simpa using this
  have HK := Lib.hid hk
  clear hlb hrb hk
  go_enter Tryd.func30, Tryd.ntmps30
  go_wp2_with (go_at_call 52; refine (htx _).mono ?_; rintro e w1 ⟨v, rfl, hv, hvo, hc1⟩; obtain ⟨va, vn, vc, rfl⟩ := hv.form)
  have hm1 := may_chg hc1 hm0 (by omega) (by simp)
  have hC1 := hc0.nil_trans hc1
  have hsu := sum1 (w1.alloc (.cells #[.slice va vn vc] 84)) wd (.slice va vn vc) w1.heap.size _ (hv.chg0 ((Chg.refl [] w1).alloc _)) hll (HK.out.chg0 (hC1.alloc _)) (blk_new w1 _)
  have hm2 : may (w1.alloc (.cells #[.slice va vn vc] 84)) (w.heap.size + 2) 0 32 = true := may_chg ((Chg.refl [] w1).alloc _) hm1 (by omega) (by simp)
  have HSM : Shut (foldN wd l r = sumN wd (2 :: l ++ r)) := ⟨rfl⟩
  generalize sumN wd (2 :: l ++ r) = sm at *
  go_at_call 38
  refine hsu.mono ?_
  rintro e w3 ⟨rfl, hc3⟩
  have hm3 := may_chg hc3 hm2 (by omega) (by simp)
  go_wp2
  refine bodyPost_ret (res_Hash1 rfl _ _ rfl (rng?_setRng_same _ _ _ _ _ hm3 (by rw [hV_size]; exact hsl))) rfl ⟨by rw [HSM.out], ?_⟩
  exact Chg.setRng ((hC1.alloc _).nil_trans hc3) (.inr (by show w.heap.size ≤ w.heap.size + 2; omega)) _ _
set_option maxRecDepth 100000 in
theorem root_calls (w : World) (wd : Int) (n : Nat) (l : List Nat) (hn : n < 18446744073709551616) (hl : l.length = 32) (hlb : ∀ x ∈ l, x < 256) (hk : HIs w) :
    Calls Tryd.prog 29 #[.int .i64 wd, .int .u64 n, .agg (hV l)] w (HashP w (rootN wd n l)) := by
  have hsl := (sum_ok wd (3 :: bigN n 8 ++ l) (text_lt 3 _ l (by decide) (bigN_lt _ _) hlb)).1
  have htx := fun W => roottext_calls W n l hn hl hlb
  have hll : (3 :: bigN n 8 ++ l).length ≤ 1099511627776 := by simp [bigN_length]; omega
  have hc0 : Chg [] w ((w.alloc (.cells (hV l) 37)).alloc (.cells zeroHash 37)) := ((Chg.refl _ _).alloc _).alloc _
  have hm0 : may ((w.alloc (.cells (hV l) 37)).alloc (.cells zeroHash 37)) (w.heap.size + 1) 0 32 = true := by
    have := may_alloc_at (w.alloc (.cells (hV l) 37)) _ 32 zeroHash 37 rfl zeroHash_size
    simpa using this
  have HK := Lib.hid hk
  clear hlb hk
  go_enter Tryd.func29, Tryd.ntmps29
  go_wp2_with (go_at_call 51; refine (htx _).mono ?_; rintro e w1 ⟨v, rfl, hv, hvo, hc1⟩; obtain ⟨va, vn, vc, rfl⟩ := hv.form)
  have hm1 := may_chg hc1 hm0 (by omega) (by simp)
  have hC1 := hc0.nil_trans hc1
  have hsu := sum1 (w1.alloc (.cells #[.slice va vn vc] 84)) wd (.slice va vn vc) w1.heap.size _ (hv.chg0 ((Chg.refl [] w1).alloc _)) hll (HK.out.chg0 (hC1.alloc _)) (blk_new w1 _)
  have hm2 : may (w1.alloc (.cells #[.slice va vn vc] 84)) (w.heap.size + 1) 0 32 = true := may_chg ((Chg.refl [] w1).alloc _) hm1 (by omega) (by simp)
  have HSM : Shut (rootN wd n l = sumN wd (3 :: bigN n 8 ++ l)) := ⟨rfl⟩
  generalize sumN wd (3 :: bigN n 8 ++ l) = sm at *
  go_at_call 38
  refine hsu.mono ?_
  rintro e w3 ⟨rfl, hc3⟩
  have hm3 := may_chg hc3 hm2 (by omega) (by simp)
  go_wp2
  refine bodyPost_ret (res_Hash1 rfl _ _ rfl (rng?_setRng_same _ _ _ _ _ hm3 (by rw [hV_size]; exact hsl))) rfl ⟨by rw [HSM.out], ?_⟩
  exact Chg.setRng ((hC1.alloc _).nil_trans hc3) (.inr (by show w.heap.size ≤ w.heap.size + 1; omega)) _ _
def leafN (wd : Int) (d : List Nat) : List Nat := sumN wd (0 :: d)
end Go.Proofs.YtnodjlgihhinpaaDoor

/- Texts put into one by pack.py: HaI HaJ Pop Pos PsA PsB. -/
import Derived.WalkKit
import Derived.Deep.DeepCutAuto
import Derived.IntWalk
import Derived.BigQuiet
import Derived.Deep.LoopGhost
import Derived.Test.YtpklkefnmoaaaaaGreatDoorHaHp
import Derived.Test.YtpklkefnmoaaaaaGreatDoorPkA
import Derived.Test.YtpklkefnmoaaaaaGreatDoorPkB
/- The hash: Sum of a hasher, of parts; the texts; their hashes. -/
namespace Go.Proofs.YtpklkefnmoaaaaaGreatDoor
open Go.RowKit
set_option linter.unusedVariables false
set_option linter.unusedSimpArgs false

theorem HIs.lt {w : World} (h : HIs w) : 2 < w.heap.size ∧ 0 < w.heap.size := ⟨World.block_lt_of_cell? _ _ (h.k 0 (by decide)), World.block_lt_of_cell? _ _ (h.f 0 (by decide))⟩
def HashP (w : World) (l : List Nat) (e : Ending) (w' : World) : Prop := e = .returned (.agg (hV l)) ∧ Chg [] w w'
set_option maxRecDepth 100000 in
theorem hsum_calls (w : World) (b : Nat) (wd : Int) (h : HS) (hh : HaIs w b wd h) (hk : HIs w) (hn : h.n < 1152921504606846976) :
    Calls Tryz.prog 209 #[.pointer (some ⟨b, 0, none⟩)] w (HashP w (absorbs wd h (tailN h.n)).st) := by
  have hcl := clone_calls (w.alloc (.cells zeroHash 36)) b wd h (hh.chg ((Chg.refl [] w).alloc _) (by simp))
  have hlt := hk.lt
  have htl : (tailN h.n).length ≤ 1000 := by
    unfold tailN
    have : padN h.n < 64 := Nat.mod_lt _ (by decide)
    simp [bigN_length]
    omega
  have hok := absorbs_ok wd (tailN h.n) h hh.ok (tailN_lt _)
  have hsl := hok.st.1
  have hb := blk_lt hh.mem
  have hc97 : ∀ W, Chg [] w W → W.cell? ⟨b, 97, none⟩ = some (.int .u64 h.n) := fun W hc => (hh.chg hc (by simp)).cell97
  have hta := fun W => tail_calls W h.n (by omega)
  have HK := Lib.hid hk
  have HN := Lib.hid hn
  clear hh hk hn
  go_enter Tryz.func209, Tryz.ntmps209
  go_upto_region 2 with (go_at_call 237; refine hcl.mono ?_; rintro e w1 ⟨c, rfl, hcw, hch, hc1⟩)
  rw [World.size_alloc] at hcw
  have hC1 : Chg [] w w1 := ((Chg.refl [] w).alloc _).nil_trans hc1
  have y97 := hc97 w1 hC1
  have hcl1 := blk_lt hch.mem
  have hr0 := rng?_chg hc1 (rng?_alloc_at w w.heap.size 32 zeroHash 36 rfl zeroHash_size) (by omega) (by simp)
  have hm0 := may_chg hc1 (may_alloc_at w w.heap.size 32 zeroHash 36 rfl zeroHash_size) (by omega) (by simp)
  have hwr := fun (W : World) (v : Value) (h1 : HaIs W c wd h) (h2 : BsIs W v (tailN h.n)) (h3 : OffB v c) (h4 : HIs W) => write_calls W c wd h v (tailN h.n) h1 h2 h3 h4 ⟨by omega, by omega⟩ (by have := HN.out; omega)
  have HC := Lib.hid hch
  have HCC := Lib.hid hc1
  clear hch hcl hc97 hc1
  go_wp2_with (first
    | (go_at_call 238; refine (hta _).mono ?_; rintro e w2 ⟨v, rfl, hv, hvo, hc2⟩; have hch2 := HC.out.chg hc2 (by simp); have hk2 := HK.out.chg0 (hC1.nil_trans hc2); have hm2 := may_chg hc2 hm0 (by omega) (by simp))
    | (go_at_call 208; refine (hwr _ v hch2 hv (hvo c hcl1) hk2).mono ?_; rintro e w3 ⟨rfl, hch3, hc3⟩; have q1 := hch3.rngSt; have hm3 := may_chg hc3 hm2 (by omega) (by simp; omega); have hl3 := blk_lt hch3.mem))
  refine bodyPost_ret (res_Hash1 rfl _ _ rfl (rng?_setRng_same _ _ _ _ _ hm3 (by rw [hV_size]; exact hsl))) rfl ⟨rfl, ?_⟩
  refine Chg.setRng (Chg.trans (hC1.nil_trans hc2) hc3 ?_) (.inr (Nat.le_refl _)) _ _
  intro k hk
  simp at hk
  subst hk
  right
  omega
/-- The hash of a text. -/
def startN (wd : Int) : HS := ⟨cutN wd firstN, List.replicate 64 0, 0⟩
def sumN (wd : Int) (l : List Nat) : List Nat := (absorbs wd (absorbs wd (startN wd) l) (tailN l.length)).st
theorem sum_ok (wd : Int) (l : List Nat) (hl : ∀ x ∈ l, x < 256) : (sumN wd l).length = 32 ∧ ∀ x ∈ sumN wd l, x < 256 :=
  (absorbs_ok wd _ _ (absorbs_ok wd l _ (start_ok wd) hl) (tailN_lt _)).st
set_option maxRecDepth 100000 in
theorem sum_calls (w : World) (wd : Int) (g o cap : Nat) (ps : List (Value × List Nat)) (hp : Parts w g o ps) (hs : sumL ps ps.length ≤ 1099511627776) (hn : ps.length ≤ 1000000) (hk : HIs w) :
    Calls Tryz.prog 161 #[.int .i64 wd, .slice (some ⟨g, o, none⟩) ps.length cap] w (HashP w (sumN wd (catL ps ps.length))) := by
  have hnew := newh_calls (w.alloc (.cells zeroHash 36)) wd (hk.chg0 ((Chg.refl [] w).alloc _))
  have hlt := hk.lt
  have hlenc := catL_length ps
  go_enter Tryz.func161, Tryz.ntmps161
  go_wp2_with (go_at_call 207; refine hnew.mono ?_; rintro e w1 ⟨b, rfl, hbw, hb, hc1⟩)
  rw [World.size_alloc] at hbw
  have hC1 : Chg [] w w1 := ((Chg.refl [] w).alloc _).nil_trans hc1
  have hm0 := may_chg hc1 (may_alloc_at w w.heap.size 32 zeroHash 36 rfl zeroHash_size) (by omega) (by simp)
  have hb0 : HaIs w1 b wd (absorbs wd (startN wd) (catL ps 0)) := hb
  have HNW := Lib.hid hnew
  clear hnew hc1 hb
  obtain ⟨w0, rfl⟩ : ∃ w0 : World, w0 = w := ⟨_, rfl⟩
  go_loopg [12] ps.length (fun gh ii wx => ∃ i : Nat, i ≤ ps.length ∧ gh = ps.length - i ∧ ii = .int .i64 i ∧ HaIs wx b wd (absorbs wd (startN wd) (catL ps i)) ∧ Chg [] w0 wx ∧ may wx w0.heap.size 0 32 = true)
  case atStart => exact ⟨0, by omega, by omega, rfl, hb0, hC1, hm0⟩
  case round =>
    clear hb0 hC1 hm0
    obtain ⟨i, hi, hgi, rfl, hh, hC, hm⟩ := hrel
    by_cases hlt2 : i < ps.length
    · have hlt' : i < ps.length := hlt2
      obtain ⟨hc, hbs⟩ := (hp.chg0 hC) i hlt'
      have hoff := ((hp i hlt').2).off (k := b) (by omega)
      have hsu := catL_succ ps i hlt'
      have hle := sumL_le ps (i + 1) ps.length hlt'
      rw [← hlenc (i + 1), hsu, List.length_append] at hle
      have hbl := World.block_lt_of_cell? _ _ hc
      have hw := write_calls wr b wd _ ps[i].1 ps[i].2 hh hbs hoff (hk.chg0 hC) ⟨by omega, by omega⟩ (by rw [absorbs_n]; show 0 + _ + _ < _; omega)
      rw [← absorbs_app, ← hsu] at hw
      clear hh hbs hoff hsu hle hp hk hlenc
      generalize ps[i].1 = pv at *
      go_wp2_with (go_at_call 208; refine hw.mono ?_; rintro e w2 ⟨rfl, hh2, hc2⟩)
      have hm2 := may_chg hc2 hm (by omega) (by simp; omega)
      go_roundg (ps.length - (i + 1))
      case measure => omega
      case rel => exact ⟨i + 1, by omega, rfl, by go_num, hh2, hC.trans hc2 (by simp; omega), hm2⟩
    · obtain rfl : i = ps.length := by omega
      have hle := hlenc ps.length
      have hsum := hsum_calls wr b wd _ hh (hk.chg0 hC) (by rw [absorbs_n]; show 0 + _ < _; omega)
      have e : (absorbs wd (absorbs wd (startN wd) (catL ps ps.length)) (tailN (absorbs wd (startN wd) (catL ps ps.length)).n)).st = sumN wd (catL ps ps.length) := by
        rw [absorbs_n]
        show (absorbs wd _ (tailN (0 + _))).st = _
        rw [Nat.zero_add]
        rfl
      rw [e] at hsum
      have hsl := (sum_ok wd (catL ps ps.length) (catL_lt hp _ (Nat.le_refl _))).1
      clear hh hp hlenc hle e hk hgi
      generalize sumN wd (catL ps ps.length) = sm at *
      go_wp2_with (go_at_call 209; refine hsum.mono ?_; rintro e w3 ⟨rfl, hc3⟩; have hm3 := may_chg hc3 hm (by omega) (by simp))
      refine bodyPost_ret (res_Hash1 rfl _ _ rfl (rng?_setRng_same _ _ _ _ _ hm3 (by rw [hV_size]; exact hsl))) rfl ⟨rfl, ?_⟩
      exact (hC.nil_trans hc3).setRng (.inr (Nat.le_refl _)) _ _
end Go.Proofs.YtpklkefnmoaaaaaGreatDoor

/- The hash: the texts and their hashes. -/
namespace Go.Proofs.YtpklkefnmoaaaaaGreatDoor
open Go.RowKit
set_option linter.unusedVariables false
set_option linter.unusedSimpArgs false

theorem hash_bs {W : World} {b : Nat} {l : List Nat} {t : TypeId} (h : W.heap[b]? = some (.cells (hV l) t (0, 0))) (hl : l.length = 32) (hb : ∀ x ∈ l, x < 256) : BsIs W (.slice (some ⟨b, 0, none⟩) 32 32) l :=
  ⟨hb, some ⟨b, 0, none⟩, 32, by rw [hl], by omega, by unfold maxLen; omega, .inr ⟨b, 0, rfl, blk_lt h, fun i hi => by
    rw [Nat.zero_add]
    refine blk_cell h i ?_
    rw [hV_at _ _ hi, List.getD_eq_getElem?_getD, List.getElem?_eq_getElem hi]
    rfl⟩⟩
theorem one_bs {W : World} {b c : Nat} (h : W.heap[b]? = some (.cells #[.int .u8 c] 5 (0, 0))) (hc : c < 256) : BsIs W (.slice (some ⟨b, 0, none⟩) 1 1) [c] :=
  ⟨by simpa using hc, some ⟨b, 0, none⟩, 1, rfl, Nat.le_refl _, by unfold maxLen; omega, .inr ⟨b, 0, rfl, blk_lt h, fun i hi => by
    have : i = 0 := by simp at hi; omega
    subst this
    exact blk_cell h 0 rfl⟩⟩
theorem text3 (W : World) (v1 v2 : Value) (x y c : Nat) (l r : List Nat) (hc : c < 256) (h1 : BsIs W v1 l) (h2 : BsIs W v2 r) (hl : l.length + r.length ≤ 1000000)
    (hx : W.heap[x]? = some (.cells #[.int .u8 c] 5 (0, 0))) (hy : W.heap[y]? = some (.cells #[.slice (some ⟨x, 0, none⟩) 1 1, v1, v2] 37 (0, 0))) :
    Calls Tryz.prog 210 #[.slice (some ⟨y, 0, none⟩) 3 3] W (ConcatP W (c :: l ++ r)) := by
  have hp : Parts W y 0 [(.slice (some ⟨x, 0, none⟩) 1 1, [c]), (v1, l), (v2, r)] := by
    intro i hi
    rw [Nat.zero_add]
    match i, hi with
    | 0, _ => exact ⟨blk_cell hy 0 rfl, one_bs hx hc⟩
    | 1, _ => exact ⟨blk_cell hy 1 rfl, h1⟩
    | 2, _ => exact ⟨blk_cell hy 2 rfl, h2⟩
    | i + 3, h => simp at h; omega
  have hs : sumL [(Value.slice (some ⟨x, 0, none⟩) 1 1, [c]), (v1, l), (v2, r)] 3 = 1 + (l.length + r.length) := by simp [sumL]
  have := concat_calls W y 0 3 _ hp (by simp only [List.length_cons, List.length_nil]; rw [hs]; omega) (by simp only [List.length_cons, List.length_nil]; rw [hs]; omega) (by simp)
  have e : catL [(Value.slice (some ⟨x, 0, none⟩) 1 1, [c]), (v1, l), (v2, r)] 3 = c :: l ++ r := by simp [catL]
  simp only [List.length_cons, List.length_nil] at this
  rw [e] at this
  exact this
theorem sum1 (W : World) (wd : Int) (v : Value) (y : Nat) (l : List Nat) (h1 : BsIs W v l) (hl : l.length ≤ 1099511627776) (hk : HIs W) (hy : W.heap[y]? = some (.cells #[v] 37 (0, 0))) :
    Calls Tryz.prog 161 #[.int .i64 wd, .slice (some ⟨y, 0, none⟩) 1 1] W (HashP W (sumN wd l)) := by
  have hp : Parts W y 0 [(v, l)] := by
    intro i hi
    rw [Nat.zero_add]
    match i, hi with
    | 0, _ => exact ⟨blk_cell hy 0 rfl, h1⟩
    | i + 1, h => simp at h
  have hs : sumL [(v, l)] 1 = l.length := by simp [sumL]
  have := sum_calls W wd y 0 1 _ hp (by simp only [List.length_cons, List.length_nil]; rw [hs]; exact hl) (by simp) hk
  have e : catL [(v, l)] 1 = l := by simp [catL]
  simp only [List.length_cons, List.length_nil] at this
  rw [e] at this
  exact this

def TextP (w : World) (l : List Nat) (e : Ending) (w' : World) : Prop := ∃ v, e = .returned v ∧ BsIs w' v l ∧ (∀ k, k < w.heap.size → OffB v k) ∧ Chg [] w w'
set_option maxRecDepth 100000 in
set_option maxHeartbeats 4000000 in
theorem nodetext_calls (w : World) (l r : List Nat) (hl : l.length = 32) (hr : r.length = 32) (hlb : ∀ x ∈ l, x < 256) (hrb : ∀ x ∈ r, x < 256) :
    Calls Tryz.prog 162 #[.agg (hV l), .agg (hV r)] w (TextP w (1 :: l ++ r)) := by
  have hall : ∀ x ∈ (1 :: l ++ r), x < 256 := by
    intro x hx
    simp only [List.cons_append, List.mem_cons, List.mem_append] at hx
    rcases hx with rfl | hx | hx
    · decide
    · exact hlb x hx
    · exact hrb x hx
  have h0 : ((w.alloc (.cells (hV l) 36)).alloc (.cells (hV r) 36)).heap[w.heap.size]? = some (.cells (hV l) 36 (0, 0)) := blk_alloc (blk_new w _) _
  have h1 : ((w.alloc (.cells (hV l) 36)).alloc (.cells (hV r) 36)).heap[w.heap.size + 1]? = some (.cells (hV r) 36 (0, 0)) := by
    have := blk_new (w.alloc (.cells (hV l) 36)) (.cells (hV r) 36)
    rw [World.size_alloc] at this
    exact this
  have hc0 : Chg [] w ((w.alloc (.cells (hV l) 36)).alloc (.cells (hV r) 36)) := ((Chg.refl _ _).alloc _).alloc _
  have hz0 : ((w.alloc (.cells (hV l) 36)).alloc (.cells (hV r) 36)).heap.size = w.heap.size + 2 := by simp
  go_enter Tryz.func162, Tryz.ntmps162
  go_upto_region 1 with (fail)
  generalize (w.alloc (.cells (hV l) 36)).alloc (.cells (hV r) 36) = w2 at *
  have hb1 := hash_bs h0 hl hlb
  have hb2 := hash_bs h1 hr hrb
  have hcw : ∀ o o' : Obj, Chg [] w2 ((w2.alloc o).alloc o').drew := fun o o' => (((Chg.refl _ _).alloc _).alloc _).drew
  have hcon := text3 ((w2.alloc (.cells #[.int .u8 1] 5)).alloc (.cells #[.slice (some ⟨w2.heap.size, 0, none⟩) 1 1, .slice (some ⟨w.heap.size, 0, none⟩) 32 32, .slice (some ⟨w.heap.size + 1, 0, none⟩) 32 32] 37)).drew
    (.slice (some ⟨w.heap.size, 0, none⟩) 32 32) (.slice (some ⟨w.heap.size + 1, 0, none⟩) 32 32) w2.heap.size (w2.heap.size + 1) 1 l r (by decide) (hb1.chg0 (hcw _ _)) (hb2.chg0 (hcw _ _)) (by omega)
    (blk_drew (blk_alloc (blk_new w2 _) _)) (by
      have := blk_new (w2.alloc (.cells #[.int .u8 1] 5)) (.cells #[.slice (some ⟨w2.heap.size, 0, none⟩) 1 1, .slice (some ⟨w.heap.size, 0, none⟩) 32 32, .slice (some ⟨w.heap.size + 1, 0, none⟩) 32 32] 37)
      rw [World.size_alloc] at this
      exact blk_drew this)
  have hcw2 := hcw (.cells #[.int .u8 1] 5) (.cells #[.slice (some ⟨w2.heap.size, 0, none⟩) 1 1, .slice (some ⟨w.heap.size, 0, none⟩) 32 32, .slice (some ⟨w.heap.size + 1, 0, none⟩) 32 32] 37)
  have hsz := hcw2.size
  have hle : w.heap.size ≤ w2.heap.size := by omega
  clear hcw hb1 hb2 h0 h1 hz0
  have HA := Lib.hid hall
  have HCON := Lib.hid hcon
  clear hcon
  clear hall hl hr hlb hrb
  go_region_with (go_at_call 210; refine HCON.out.mono ?_; rintro e w3 ⟨v, rfl, hv, hc3⟩)
  all_goals
    go_wp2
    go_ret
    exact ⟨_, rfl, hv.bs HA.out, fun k hk => hv.off (by omega), (hc0.nil_trans hcw2).nil_trans hc3⟩
set_option maxRecDepth 100000 in
set_option maxHeartbeats 4000000 in
theorem foldtext_calls (w : World) (l r : List Nat) (hl : l.length = 32) (hr : r.length = 32) (hlb : ∀ x ∈ l, x < 256) (hrb : ∀ x ∈ r, x < 256) :
    Calls Tryz.prog 164 #[.agg (hV l), .agg (hV r)] w (TextP w (2 :: l ++ r)) := by
  have hall : ∀ x ∈ (2 :: l ++ r), x < 256 := by
    intro x hx
    simp only [List.cons_append, List.mem_cons, List.mem_append] at hx
    rcases hx with rfl | hx | hx
    · decide
    · exact hlb x hx
    · exact hrb x hx
  have h0 : ((w.alloc (.cells (hV l) 36)).alloc (.cells (hV r) 36)).heap[w.heap.size]? = some (.cells (hV l) 36 (0, 0)) := blk_alloc (blk_new w _) _
  have h1 : ((w.alloc (.cells (hV l) 36)).alloc (.cells (hV r) 36)).heap[w.heap.size + 1]? = some (.cells (hV r) 36 (0, 0)) := by
    have := blk_new (w.alloc (.cells (hV l) 36)) (.cells (hV r) 36)
    rw [World.size_alloc] at this
    exact this
  have hc0 : Chg [] w ((w.alloc (.cells (hV l) 36)).alloc (.cells (hV r) 36)) := ((Chg.refl _ _).alloc _).alloc _
  have hz0 : ((w.alloc (.cells (hV l) 36)).alloc (.cells (hV r) 36)).heap.size = w.heap.size + 2 := by simp
  go_enter Tryz.func164, Tryz.ntmps164
  go_upto_region 1 with (fail)
  generalize (w.alloc (.cells (hV l) 36)).alloc (.cells (hV r) 36) = w2 at *
  have hb1 := hash_bs h0 hl hlb
  have hb2 := hash_bs h1 hr hrb
  have hcw : ∀ o o' : Obj, Chg [] w2 ((w2.alloc o).alloc o').drew := fun o o' => (((Chg.refl _ _).alloc _).alloc _).drew
  have hcon := text3 ((w2.alloc (.cells #[.int .u8 2] 5)).alloc (.cells #[.slice (some ⟨w2.heap.size, 0, none⟩) 1 1, .slice (some ⟨w.heap.size, 0, none⟩) 32 32, .slice (some ⟨w.heap.size + 1, 0, none⟩) 32 32] 37)).drew
    (.slice (some ⟨w.heap.size, 0, none⟩) 32 32) (.slice (some ⟨w.heap.size + 1, 0, none⟩) 32 32) w2.heap.size (w2.heap.size + 1) 2 l r (by decide) (hb1.chg0 (hcw _ _)) (hb2.chg0 (hcw _ _)) (by omega)
    (blk_drew (blk_alloc (blk_new w2 _) _)) (by
      have := blk_new (w2.alloc (.cells #[.int .u8 2] 5)) (.cells #[.slice (some ⟨w2.heap.size, 0, none⟩) 1 1, .slice (some ⟨w.heap.size, 0, none⟩) 32 32, .slice (some ⟨w.heap.size + 1, 0, none⟩) 32 32] 37)
      rw [World.size_alloc] at this
      exact blk_drew this)
  have hcw2 := hcw (.cells #[.int .u8 2] 5) (.cells #[.slice (some ⟨w2.heap.size, 0, none⟩) 1 1, .slice (some ⟨w.heap.size, 0, none⟩) 32 32, .slice (some ⟨w.heap.size + 1, 0, none⟩) 32 32] 37)
  have hsz := hcw2.size
  have hle : w.heap.size ≤ w2.heap.size := by omega
  clear hcw hb1 hb2 h0 h1 hz0
  have HA := Lib.hid hall
  have HCON := Lib.hid hcon
  clear hcon
  clear hall hl hr hlb hrb
  go_region_with (go_at_call 210; refine HCON.out.mono ?_; rintro e w3 ⟨v, rfl, hv, hc3⟩)
  all_goals
    go_wp2
    go_ret
    exact ⟨_, rfl, hv.bs HA.out, fun k hk => hv.off (by omega), (hc0.nil_trans hcw2).nil_trans hc3⟩
set_option maxRecDepth 100000 in
theorem roottext_calls (w : World) (n : Nat) (l : List Nat) (hn : n < 18446744073709551616) (hl : l.length = 32) (hlb : ∀ x ∈ l, x < 256) :
    Calls Tryz.prog 163 #[.int .u64 n, .agg (hV l)] w (TextP w (3 :: bigN n 8 ++ l)) := by
  have hall : ∀ x ∈ (3 :: bigN n 8 ++ l), x < 256 := by
    intro x hx
    simp only [List.cons_append, List.mem_cons, List.mem_append] at hx
    rcases hx with rfl | hx | hx
    · decide
    · exact bigN_lt _ _ x hx
    · exact hlb x hx
  have hbig := big_calls (w.alloc (.cells (hV l) 36)) n 8 (.inr rfl) (by simpa using hn)
  have hz : (w.alloc (.cells (hV l) 36)).heap.size = w.heap.size + 1 := by simp
  rw [hz] at hbig
  go_enter Tryz.func163, Tryz.ntmps163
  go_upto_region 2 with (go_at_call 211; refine hbig.mono ?_; rintro e w1 ⟨rfl, hB, hc⟩)
  have hC : Chg [] w w1 := ((Chg.refl [] w).alloc _).nil_trans hc
  have h0 : w1.heap[w.heap.size]? = some (.cells (hV l) 36 (0, 0)) := hc.at (blk_new w _) (by simp)
  have hb2 := hash_bs h0 hl hlb
  have hb1 : BsIs w1 (.slice (some ⟨w.heap.size + 1, 0, none⟩) 8 8) (bigN n 8) :=
    ⟨bigN_lt _ _, some ⟨w.heap.size + 1, 0, none⟩, 8, by rw [bigN_length], by rw [bigN_length]; omega, by unfold maxLen; omega, .inr ⟨w.heap.size + 1, 0, rfl, blk_lt hB.cells, fun i hi => by
      rw [Nat.zero_add]
      refine blk_cell hB.cells i ?_
      rw [hV_at _ _ hi, List.getD_eq_getElem?_getD, List.getElem?_eq_getElem hi]
      rfl⟩⟩
  have hcw : ∀ o o' : Obj, Chg [] w1 ((w1.alloc o).alloc o') := fun o o' => ((Chg.refl _ _).alloc _).alloc _
  have hcon := text3 ((w1.alloc (.cells #[.int .u8 3] 5)).alloc (.cells #[.slice (some ⟨w1.heap.size, 0, none⟩) 1 1, .slice (some ⟨w.heap.size + 1, 0, none⟩) 8 8, .slice (some ⟨w.heap.size, 0, none⟩) 32 32] 37))
    (.slice (some ⟨w.heap.size + 1, 0, none⟩) 8 8) (.slice (some ⟨w.heap.size, 0, none⟩) 32 32) w1.heap.size (w1.heap.size + 1) 3 (bigN n 8) l (by decide) (hb1.chg0 (hcw _ _)) (hb2.chg0 (hcw _ _)) (by rw [bigN_length]; omega)
    (blk_alloc (blk_new w1 _) _) (by
      have := blk_new (w1.alloc (.cells #[.int .u8 3] 5)) (.cells #[.slice (some ⟨w1.heap.size, 0, none⟩) 1 1, .slice (some ⟨w.heap.size + 1, 0, none⟩) 8 8, .slice (some ⟨w.heap.size, 0, none⟩) 32 32] 37)
      rw [World.size_alloc] at this
      exact this)
  have hcw2 := hcw (.cells #[.int .u8 3] 5) (.cells #[.slice (some ⟨w1.heap.size, 0, none⟩) 1 1, .slice (some ⟨w.heap.size + 1, 0, none⟩) 8 8, .slice (some ⟨w.heap.size, 0, none⟩) 32 32] 37)
  have hsz := hcw2.size
  have hsz1 := hC.size
  have hbl := blk_lt h0
  have hbl2 := blk_lt hB.cells
  have HA := Lib.hid hall
  clear hcw hb1 hb2 h0 hz hB hall hl hlb hbig
  go_wp2_with (go_at_call 210; refine hcon.mono ?_; rintro e w3 ⟨v, rfl, hv, hc3⟩)
  go_ret
  exact ⟨_, rfl, hv.bs HA.out, fun k hk => hv.off (by omega), (hC.nil_trans hcw2).nil_trans hc3⟩
theorem TextP.size {w w' : World} (h : Chg [] w w') : w.heap.size ≤ w'.heap.size := h.size
theorem BsIs.form {w : World} {v : Value} {l : List Nat} (h : BsIs w v l) : ∃ a n cap, v = .slice a n cap := by
  obtain ⟨h1, a, cap, hv, _⟩ := h
  exact ⟨a, _, cap, hv⟩
def nodeN (wd : Int) (l r : List Nat) : List Nat := sumN wd (1 :: l ++ r)
def foldN (wd : Int) (l r : List Nat) : List Nat := sumN wd (2 :: l ++ r)
def rootN (wd : Int) (n : Nat) (l : List Nat) : List Nat := sumN wd (3 :: bigN n 8 ++ l)
theorem text_lt (c : Nat) (l r : List Nat) (hc : c < 256) (hl : ∀ x ∈ l, x < 256) (hr : ∀ x ∈ r, x < 256) : ∀ x ∈ (c :: l ++ r), x < 256 := by
  intro x hx
  simp only [List.cons_append, List.mem_cons, List.mem_append] at hx
  rcases hx with rfl | hx | hx
  · exact hc
  · exact hl x hx
  · exact hr x hx
set_option maxRecDepth 100000 in
theorem node_calls (w : World) (wd : Int) (l r : List Nat) (hl : l.length = 32) (hr : r.length = 32) (hlb : ∀ x ∈ l, x < 256) (hrb : ∀ x ∈ r, x < 256) (hk : HIs w) :
    Calls Tryz.prog 79 #[.int .i64 wd, .agg (hV l), .agg (hV r)] w (HashP w (nodeN wd l r)) := by
  have hsl := (sum_ok wd (1 :: l ++ r) (text_lt 1 l r (by decide) hlb hrb)).1
  have htx := fun W => nodetext_calls W l r hl hr hlb hrb
  have hll : (1 :: l ++ r).length ≤ 1099511627776 := by simp; omega
  have hc0 : Chg [] w (((w.alloc (.cells (hV l) 36)).alloc (.cells (hV r) 36)).alloc (.cells zeroHash 36)) := (((Chg.refl _ _).alloc _).alloc _).alloc _
  have hm0 : may (((w.alloc (.cells (hV l) 36)).alloc (.cells (hV r) 36)).alloc (.cells zeroHash 36)) (w.heap.size + 2) 0 32 = true := by
    have := may_alloc_at ((w.alloc (.cells (hV l) 36)).alloc (.cells (hV r) 36)) _ 32 zeroHash 36 rfl zeroHash_size
    simpa using this
  have HK := Lib.hid hk
  clear hlb hrb hk
  go_enter Tryz.func79, Tryz.ntmps79
  go_wp2_with (go_at_call 162; refine (htx _).mono ?_; rintro e w1 ⟨v, rfl, hv, hvo, hc1⟩; obtain ⟨va, vn, vc, rfl⟩ := hv.form)
  have hm1 := may_chg hc1 hm0 (by omega) (by simp)
  have hC1 := hc0.nil_trans hc1
  have hsu := sum1 (w1.alloc (.cells #[.slice va vn vc] 37)) wd (.slice va vn vc) w1.heap.size _ (hv.chg0 ((Chg.refl [] w1).alloc _)) hll (HK.out.chg0 (hC1.alloc _)) (blk_new w1 _)
  have hm2 : may (w1.alloc (.cells #[.slice va vn vc] 37)) (w.heap.size + 2) 0 32 = true := may_chg ((Chg.refl [] w1).alloc _) hm1 (by omega) (by simp)
  have HSM : Shut (nodeN wd l r = sumN wd (1 :: l ++ r)) := ⟨rfl⟩
  generalize sumN wd (1 :: l ++ r) = sm at *
  go_at_call 161
  refine hsu.mono ?_
  rintro e w3 ⟨rfl, hc3⟩
  have hm3 := may_chg hc3 hm2 (by omega) (by simp)
  go_wp2
  refine bodyPost_ret (res_Hash1 rfl _ _ rfl (rng?_setRng_same _ _ _ _ _ hm3 (by rw [hV_size]; exact hsl))) rfl ⟨by rw [HSM.out], ?_⟩
  exact Chg.setRng ((hC1.alloc _).nil_trans hc3) (.inr (by show w.heap.size ≤ w.heap.size + 2; omega)) _ _
set_option maxRecDepth 100000 in
theorem fold_calls (w : World) (wd : Int) (l r : List Nat) (hl : l.length = 32) (hr : r.length = 32) (hlb : ∀ x ∈ l, x < 256) (hrb : ∀ x ∈ r, x < 256) (hk : HIs w) :
    Calls Tryz.prog 81 #[.int .i64 wd, .agg (hV l), .agg (hV r)] w (HashP w (foldN wd l r)) := by
  have hsl := (sum_ok wd (2 :: l ++ r) (text_lt 2 l r (by decide) hlb hrb)).1
  have htx := fun W => foldtext_calls W l r hl hr hlb hrb
  have hll : (2 :: l ++ r).length ≤ 1099511627776 := by simp; omega
  have hc0 : Chg [] w (((w.alloc (.cells (hV l) 36)).alloc (.cells (hV r) 36)).alloc (.cells zeroHash 36)) := (((Chg.refl _ _).alloc _).alloc _).alloc _
  have hm0 : may (((w.alloc (.cells (hV l) 36)).alloc (.cells (hV r) 36)).alloc (.cells zeroHash 36)) (w.heap.size + 2) 0 32 = true := by
    have := may_alloc_at ((w.alloc (.cells (hV l) 36)).alloc (.cells (hV r) 36)) _ 32 zeroHash 36 rfl zeroHash_size
    simpa using this
  have HK := Lib.hid hk
  clear hlb hrb hk
  go_enter Tryz.func81, Tryz.ntmps81
  go_wp2_with (go_at_call 164; refine (htx _).mono ?_; rintro e w1 ⟨v, rfl, hv, hvo, hc1⟩; obtain ⟨va, vn, vc, rfl⟩ := hv.form)
  have hm1 := may_chg hc1 hm0 (by omega) (by simp)
  have hC1 := hc0.nil_trans hc1
  have hsu := sum1 (w1.alloc (.cells #[.slice va vn vc] 37)) wd (.slice va vn vc) w1.heap.size _ (hv.chg0 ((Chg.refl [] w1).alloc _)) hll (HK.out.chg0 (hC1.alloc _)) (blk_new w1 _)
  have hm2 : may (w1.alloc (.cells #[.slice va vn vc] 37)) (w.heap.size + 2) 0 32 = true := may_chg ((Chg.refl [] w1).alloc _) hm1 (by omega) (by simp)
  have HSM : Shut (foldN wd l r = sumN wd (2 :: l ++ r)) := ⟨rfl⟩
  generalize sumN wd (2 :: l ++ r) = sm at *
  go_at_call 161
  refine hsu.mono ?_
  rintro e w3 ⟨rfl, hc3⟩
  have hm3 := may_chg hc3 hm2 (by omega) (by simp)
  go_wp2
  refine bodyPost_ret (res_Hash1 rfl _ _ rfl (rng?_setRng_same _ _ _ _ _ hm3 (by rw [hV_size]; exact hsl))) rfl ⟨by rw [HSM.out], ?_⟩
  exact Chg.setRng ((hC1.alloc _).nil_trans hc3) (.inr (by show w.heap.size ≤ w.heap.size + 2; omega)) _ _
set_option maxRecDepth 100000 in
theorem root_calls (w : World) (wd : Int) (n : Nat) (l : List Nat) (hn : n < 18446744073709551616) (hl : l.length = 32) (hlb : ∀ x ∈ l, x < 256) (hk : HIs w) :
    Calls Tryz.prog 80 #[.int .i64 wd, .int .u64 n, .agg (hV l)] w (HashP w (rootN wd n l)) := by
  have hsl := (sum_ok wd (3 :: bigN n 8 ++ l) (text_lt 3 _ l (by decide) (bigN_lt _ _) hlb)).1
  have htx := fun W => roottext_calls W n l hn hl hlb
  have hll : (3 :: bigN n 8 ++ l).length ≤ 1099511627776 := by simp [bigN_length]; omega
  have hc0 : Chg [] w ((w.alloc (.cells (hV l) 36)).alloc (.cells zeroHash 36)) := ((Chg.refl _ _).alloc _).alloc _
  have hm0 : may ((w.alloc (.cells (hV l) 36)).alloc (.cells zeroHash 36)) (w.heap.size + 1) 0 32 = true := by
    have := may_alloc_at (w.alloc (.cells (hV l) 36)) _ 32 zeroHash 36 rfl zeroHash_size
    simpa using this
  have HK := Lib.hid hk
  clear hlb hk
  go_enter Tryz.func80, Tryz.ntmps80
  go_wp2_with (go_at_call 163; refine (htx _).mono ?_; rintro e w1 ⟨v, rfl, hv, hvo, hc1⟩; obtain ⟨va, vn, vc, rfl⟩ := hv.form)
  have hm1 := may_chg hc1 hm0 (by omega) (by simp)
  have hC1 := hc0.nil_trans hc1
  have hsu := sum1 (w1.alloc (.cells #[.slice va vn vc] 37)) wd (.slice va vn vc) w1.heap.size _ (hv.chg0 ((Chg.refl [] w1).alloc _)) hll (HK.out.chg0 (hC1.alloc _)) (blk_new w1 _)
  have hm2 : may (w1.alloc (.cells #[.slice va vn vc] 37)) (w.heap.size + 1) 0 32 = true := may_chg ((Chg.refl [] w1).alloc _) hm1 (by omega) (by simp)
  have HSM : Shut (rootN wd n l = sumN wd (3 :: bigN n 8 ++ l)) := ⟨rfl⟩
  generalize sumN wd (3 :: bigN n 8 ++ l) = sm at *
  go_at_call 161
  refine hsu.mono ?_
  rintro e w3 ⟨rfl, hc3⟩
  have hm3 := may_chg hc3 hm2 (by omega) (by simp)
  go_wp2
  refine bodyPost_ret (res_Hash1 rfl _ _ rfl (rng?_setRng_same _ _ _ _ _ hm3 (by rw [hV_size]; exact hsl))) rfl ⟨by rw [HSM.out], ?_⟩
  exact Chg.setRng ((hC1.alloc _).nil_trans hc3) (.inr (by show w.heap.size ≤ w.heap.size + 1; omega)) _ _
def leafN (wd : Int) (d : List Nat) : List Nat := sumN wd (0 :: d)
theorem text2 (W : World) (v1 : Value) (x y c : Nat) (l : List Nat) (hc : c < 256) (h1 : BsIs W v1 l) (hl : l.length ≤ 1000000000)
    (hx : W.heap[x]? = some (.cells #[.int .u8 c] 5 (0, 0))) (hy : W.heap[y]? = some (.cells #[.slice (some ⟨x, 0, none⟩) 1 1, v1] 37 (0, 0))) :
    Calls Tryz.prog 210 #[.slice (some ⟨y, 0, none⟩) 2 2] W (ConcatP W (c :: l)) := by
  have hp : Parts W y 0 [(.slice (some ⟨x, 0, none⟩) 1 1, [c]), (v1, l)] := by
    intro i hi
    rw [Nat.zero_add]
    match i, hi with
    | 0, _ => exact ⟨blk_cell hy 0 rfl, one_bs hx hc⟩
    | 1, _ => exact ⟨blk_cell hy 1 rfl, h1⟩
    | i + 2, h => simp at h; omega
  have hs : sumL [(Value.slice (some ⟨x, 0, none⟩) 1 1, [c]), (v1, l)] 2 = 1 + l.length := by simp [sumL]
  have := concat_calls W y 0 2 _ hp (by simp only [List.length_cons, List.length_nil]; rw [hs]; omega) (by simp only [List.length_cons, List.length_nil]; rw [hs]; omega) (by simp)
  have e : catL [(Value.slice (some ⟨x, 0, none⟩) 1 1, [c]), (v1, l)] 2 = c :: l := by simp [catL]
  simp only [List.length_cons, List.length_nil] at this
  rw [e] at this
  exact this
set_option maxRecDepth 100000 in
theorem leaftext_calls (w : World) (v : Value) (l : List Nat) (hv : BsIs w v l) (hl : l.length ≤ 1000000000) :
    Calls Tryz.prog 212 #[v] w (TextP w (0 :: l)) := by
  have hall : ∀ x ∈ (0 :: l), x < 256 := by
    intro x hx
    simp only [List.mem_cons] at hx
    rcases hx with rfl | hx
    · decide
    · exact hv.1 x hx
  obtain ⟨va, vn, vc, rfl⟩ := hv.form
  have hcon := text2 ((w.alloc (.cells #[.int .u8 0] 5)).alloc (.cells #[.slice (some ⟨w.heap.size, 0, none⟩) 1 1, .slice va vn vc] 37)) (.slice va vn vc) w.heap.size (w.heap.size + 1) 0 l (by decide)
    (hv.chg0 (((Chg.refl [] w).alloc _).alloc _)) hl (blk_alloc (blk_new w _) _) (by
      have := blk_new (w.alloc (.cells #[.int .u8 0] 5)) (.cells #[.slice (some ⟨w.heap.size, 0, none⟩) 1 1, .slice va vn vc] 37)
      rw [World.size_alloc] at this
      exact this)
  have hc0 : Chg [] w ((w.alloc (.cells #[.int .u8 0] 5)).alloc (.cells #[.slice (some ⟨w.heap.size, 0, none⟩) 1 1, .slice va vn vc] 37)) := ((Chg.refl _ _).alloc _).alloc _
  have hsz := hc0.size
  have HA := Lib.hid hall
  clear hall hv
  go_enter Tryz.func212, Tryz.ntmps212
  go_wp2_with (go_at_call 210; refine hcon.mono ?_; rintro e w3 ⟨v, rfl, hv, hc3⟩)
  go_ret
  exact ⟨_, rfl, hv.bs HA.out, fun k hk => hv.off (by omega), hc0.nil_trans hc3⟩
set_option maxRecDepth 100000 in
theorem leaf_calls (w : World) (wd : Int) (v : Value) (l : List Nat) (hv : BsIs w v l) (hl : l.length ≤ 1000000000) (hk : HIs w) :
    Calls Tryz.prog 168 #[.int .i64 wd, v] w (HashP w (leafN wd l)) := by
  have hall : ∀ x ∈ (0 :: l), x < 256 := by
    intro x hx
    simp only [List.mem_cons] at hx
    rcases hx with rfl | hx
    · decide
    · exact hv.1 x hx
  have hsl := (sum_ok wd (0 :: l) hall).1
  have htx := leaftext_calls (w.alloc (.cells zeroHash 36)) v l (hv.chg0 ((Chg.refl [] w).alloc _)) hl
  have hll : (0 :: l).length ≤ 1099511627776 := by simp; omega
  have hc0 : Chg [] w (w.alloc (.cells zeroHash 36)) := (Chg.refl _ _).alloc _
  have hm0 : may (w.alloc (.cells zeroHash 36)) w.heap.size 0 32 = true := may_alloc_at w _ 32 zeroHash 36 rfl zeroHash_size
  have HK := Lib.hid hk
  clear hk hall hv
  go_enter Tryz.func168, Tryz.ntmps168
  go_wp2_with (go_at_call 212; refine htx.mono ?_; rintro e w1 ⟨v, rfl, hv, hvo, hc1⟩; obtain ⟨va, vn, vc, rfl⟩ := hv.form)
  have hm1 := may_chg hc1 hm0 (by omega) (by simp)
  have hC1 := hc0.nil_trans hc1
  have hsu := sum1 (w1.alloc (.cells #[.slice va vn vc] 37)) wd (.slice va vn vc) w1.heap.size _ (hv.chg0 ((Chg.refl [] w1).alloc _)) hll (HK.out.chg0 (hC1.alloc _)) (blk_new w1 _)
  have hm2 : may (w1.alloc (.cells #[.slice va vn vc] 37)) w.heap.size 0 32 = true := may_chg ((Chg.refl [] w1).alloc _) hm1 (by omega) (by simp)
  have HSM : Shut (leafN wd l = sumN wd (0 :: l)) := ⟨rfl⟩
  generalize sumN wd (0 :: l) = sm at *
  go_at_call 161
  refine hsu.mono ?_
  rintro e w3 ⟨rfl, hc3⟩
  have hm3 := may_chg hc3 hm2 (by omega) (by simp)
  go_wp2
  refine bodyPost_ret (res_Hash1 rfl _ _ rfl (rng?_setRng_same _ _ _ _ _ hm3 (by rw [hV_size]; exact hsl))) rfl ⟨by rw [HSM.out], ?_⟩
  exact Chg.setRng ((hC1.alloc _).nil_trans hc3) (.inr (Nat.le_refl _)) _ _
end Go.Proofs.YtpklkefnmoaaaaaGreatDoor

/- How many bits are set, as the library counts them. Nothing of a program. -/
namespace Go.Proofs.YtpklkefnmoaaaaaGreatDoor
set_option linter.unusedVariables false
set_option linter.unusedSimpArgs false

/-- How many bits are set. -/
def popc (n : Nat) : Nat := if h : n = 0 then 0 else n % 2 + popc (n / 2)
termination_by n
decreasing_by omega
theorem popc_zero : popc 0 = 0 := by rw [popc]; rfl
theorem popc_two (n : Nat) : popc n = n % 2 + popc (n / 2) := by
  by_cases h : n = 0
  · subst h; simp [popc_zero]
  · rw [popc, dif_neg h]
theorem popc_bit (n b : Nat) (hb : b < 2) : popc (2 * n + b) = popc n + b := by
  rw [popc_two, show (2 * n + b) % 2 = b from by omega, show (2 * n + b) / 2 = n from by omega]
  omega
def popB (b : Nat) : Nat := b % 2 + b / 2 % 2 + b / 4 % 2 + b / 8 % 2 + b / 16 % 2 + b / 32 % 2 + b / 64 % 2 + b / 128 % 2
theorem popB_le (b : Nat) : popB b ≤ 8 := by unfold popB; omega
theorem popc_eight (x : Nat) : popc x = x % 2 + x / 2 % 2 + x / 4 % 2 + x / 8 % 2 + x / 16 % 2 + x / 32 % 2 + x / 64 % 2 + x / 128 % 2 + popc (x / 256) := by
  have d2 : x / 2 / 2 = x / 4 := by rw [Nat.div_div_eq_div_mul]
  have d3 : x / 2 / 2 / 2 = x / 8 := by rw [Nat.div_div_eq_div_mul, Nat.div_div_eq_div_mul]
  have d4 : x / 2 / 2 / 2 / 2 = x / 16 := by rw [Nat.div_div_eq_div_mul, Nat.div_div_eq_div_mul, Nat.div_div_eq_div_mul]
  have d5 : x / 2 / 2 / 2 / 2 / 2 = x / 32 := by rw [Nat.div_div_eq_div_mul, Nat.div_div_eq_div_mul, Nat.div_div_eq_div_mul, Nat.div_div_eq_div_mul]
  have d6 : x / 2 / 2 / 2 / 2 / 2 / 2 = x / 64 := by rw [Nat.div_div_eq_div_mul, Nat.div_div_eq_div_mul, Nat.div_div_eq_div_mul, Nat.div_div_eq_div_mul, Nat.div_div_eq_div_mul]
  have d7 : x / 2 / 2 / 2 / 2 / 2 / 2 / 2 = x / 128 := by rw [Nat.div_div_eq_div_mul, Nat.div_div_eq_div_mul, Nat.div_div_eq_div_mul, Nat.div_div_eq_div_mul, Nat.div_div_eq_div_mul, Nat.div_div_eq_div_mul]
  have d8 : x / 2 / 2 / 2 / 2 / 2 / 2 / 2 / 2 = x / 256 := by rw [Nat.div_div_eq_div_mul, Nat.div_div_eq_div_mul, Nat.div_div_eq_div_mul, Nat.div_div_eq_div_mul, Nat.div_div_eq_div_mul, Nat.div_div_eq_div_mul, Nat.div_div_eq_div_mul]
  have h1 := popc_two (x)
  have h2 := popc_two (x / 2)
  have h3 := popc_two (x / 2 / 2)
  have h4 := popc_two (x / 2 / 2 / 2)
  have h5 := popc_two (x / 2 / 2 / 2 / 2)
  have h6 := popc_two (x / 2 / 2 / 2 / 2 / 2)
  have h7 := popc_two (x / 2 / 2 / 2 / 2 / 2 / 2)
  have h8 := popc_two (x / 2 / 2 / 2 / 2 / 2 / 2 / 2)
  rw [d8] at h8
  rw [d7] at h7 h8
  rw [d6] at h6 h7
  rw [d5] at h5 h6
  rw [d4] at h4 h5
  rw [d3] at h3 h4
  rw [d2] at h2 h3
  clear d2 d3 d4 d5 d6 d7 d8
  rw [h1, h2, h3, h4, h5, h6, h7, h8]
  ac_rfl
theorem popc_byte (y b : Nat) (hb : b < 256) : popc (256 * y + b) = popc y + popB b := by
  rw [popc_eight, show (256 * y + b) / 256 = y from by omega, show (256 * y + b) % 2 = b % 2 from by omega, show (256 * y + b) / 2 = 128 * y + b / 2 from by omega, show (256 * y + b) / 4 = 64 * y + b / 4 from by omega,
    show (256 * y + b) / 8 = 32 * y + b / 8 from by omega, show (256 * y + b) / 16 = 16 * y + b / 16 from by omega, show (256 * y + b) / 32 = 8 * y + b / 32 from by omega,
    show (256 * y + b) / 64 = 4 * y + b / 64 from by omega, show (256 * y + b) / 128 = 2 * y + b / 128 from by omega,
    show (128 * y + b / 2) % 2 = b / 2 % 2 from by omega, show (64 * y + b / 4) % 2 = b / 4 % 2 from by omega, show (32 * y + b / 8) % 2 = b / 8 % 2 from by omega, show (16 * y + b / 16) % 2 = b / 16 % 2 from by omega,
    show (8 * y + b / 32) % 2 = b / 32 % 2 from by omega, show (4 * y + b / 64) % 2 = b / 64 % 2 from by omega, show (2 * y + b / 128) % 2 = b / 128 % 2 from by omega]
  unfold popB
  ac_rfl
theorem popc_le (n k : Nat) (h : n < 2 ^ k) : popc n ≤ k := by
  induction k generalizing n with
  | zero => obtain rfl : n = 0 := by simpa using h
            rw [popc_zero]; exact Nat.le_refl _
  | succ k ih =>
    rw [popc_two]
    have := ih (n / 2) (by rw [Nat.pow_succ] at h; omega)
    omega

/-! Byte by byte. -/
theorem and_split (a m M l : Nat) (hl : l < 256) (hm : m = 256 * M + l) : a &&& m = 256 * ((a / 256) &&& M) + ((a % 256) &&& l) := by
  subst hm
  have h1 : (a &&& (256 * M + l)) / 256 = (a / 256) &&& M := by
    have := @Nat.and_div_two_pow a (256 * M + l) 8
    rw [show (2 : Nat) ^ 8 = 256 from rfl] at this
    rw [this, show (256 * M + l) / 256 = M from by omega]
  have h2 : (a &&& (256 * M + l)) % 256 = (a % 256) &&& l := by
    have := @Nat.and_mod_two_pow a (256 * M + l) 8
    rw [show (2 : Nat) ^ 8 = 256 from rfl] at this
    rw [this, show (256 * M + l) % 256 = l from by omega]
  omega
def msk (c : Nat) : Nat → Nat
  | 0 => 0
  | n + 1 => 256 * msk c n + c
def st1 (m x : Nat) : Nat := (x / 2 &&& m) + (x &&& m)
def st2 (m x : Nat) : Nat := (x / 4 &&& m) + (x &&& m)
def st3 (m x : Nat) : Nat := (x / 16 + x) &&& m
theorem low1 : ∀ b, b < 256 → ∀ c, c < 2 → ((b / 2 + 128 * c) &&& 85) = (b / 2 &&& 85) := by decide +kernel
theorem low2 : ∀ b, b < 256 → ∀ c, c < 4 → ((b / 4 + 64 * c) &&& 51) = (b / 4 &&& 51) := by decide +kernel
theorem bnd1 : ∀ b, b < 256 → st1 85 b < 256 := by decide +kernel
theorem bnd2 : ∀ b, b < 256 → st2 51 b < 256 ∧ st2 51 b % 16 ≤ 6 ∧ st2 51 b / 16 ≤ 6 := by decide +kernel
theorem all3 : ∀ b, b < 256 → st3 15 (st2 51 (st1 85 b)) = popB b := by decide +kernel
theorem st1_step (M y b : Nat) (hb : b < 256) : st1 (256 * M + 85) (256 * y + b) = 256 * st1 M y + st1 85 b := by
  unfold st1
  rw [and_split ((256 * y + b) / 2) _ M 85 (by omega) rfl, and_split (256 * y + b) _ M 85 (by omega) rfl,
    show (256 * y + b) / 2 / 256 = y / 2 from by omega, show (256 * y + b) / 256 = y from by omega, show (256 * y + b) % 256 = b from by omega,
    show (256 * y + b) / 2 % 256 = b / 2 + 128 * (y % 2) from by omega, low1 b hb (y % 2) (by omega)]
  omega
theorem st2_step (M y b : Nat) (hb : b < 256) : st2 (256 * M + 51) (256 * y + b) = 256 * st2 M y + st2 51 b := by
  unfold st2
  rw [and_split ((256 * y + b) / 4) _ M 51 (by omega) rfl, and_split (256 * y + b) _ M 51 (by omega) rfl,
    show (256 * y + b) / 4 / 256 = y / 4 from by omega, show (256 * y + b) / 256 = y from by omega, show (256 * y + b) % 256 = b from by omega,
    show (256 * y + b) / 4 % 256 = b / 4 + 64 * (y % 4) from by omega, low2 b hb (y % 4) (by omega)]
  omega
theorem st3_step (M y b : Nat) (hb : b < 256) (h1 : b % 16 ≤ 6) (h2 : b / 16 ≤ 6) (hy : y % 16 ≤ 6) : st3 (256 * M + 15) (256 * y + b) = 256 * st3 M y + st3 15 b := by
  unfold st3
  rw [and_split _ _ M 15 (by omega) rfl, show ((256 * y + b) / 16 + (256 * y + b)) / 256 = y / 16 + y from by omega]
  refine congrArg (fun z => 256 * ((y / 16 + y) &&& M) + z) ?_
  have e1 := Nat.and_two_pow_sub_one_eq_mod (((256 * y + b) / 16 + (256 * y + b)) % 256) 4
  have e2 := Nat.and_two_pow_sub_one_eq_mod (b / 16 + b) 4
  rw [show (2 : Nat) ^ 4 - 1 = 15 from rfl, show (2 : Nat) ^ 4 = 16 from rfl] at e1 e2
  rw [e1, e2, show (256 * y + b) / 16 + (256 * y + b) = 272 * y + (b / 16 + b) from by omega]
  generalize b / 16 + b = z
  clear e1 e2
  omega
theorem st2_nib (M : Nat) : ∀ y, (∀ n, M = msk 51 n → st2 M y % 16 ≤ 6) := by
  intro y n hM
  subst hM
  cases n with
  | zero => simp [msk, st2]
  | succ n =>
    have h := st2_step (msk 51 n) (y / 256) (y % 256) (Nat.mod_lt _ (by decide))
    rw [show 256 * (y / 256) + y % 256 = y from by omega] at h
    have hb := bnd2 (y % 256) (Nat.mod_lt _ (by decide))
    show st2 (256 * msk 51 n + 51) y % 16 ≤ 6
    omega
/-- The sums of the bytes, as bytes. -/
def bytesum : Nat → Nat → Nat
  | 0, _ => 0
  | n + 1, x => 256 * bytesum n (x / 256) + popB (x % 256)
theorem st_all : ∀ (n x : Nat), x < 256 ^ n → st3 (msk 15 n) (st2 (msk 51 n) (st1 (msk 85 n) x)) = bytesum n x
  | 0, x, h => by
    obtain rfl : x = 0 := by simpa using h
    rfl
  | n + 1, x, h => by
    have hb : x % 256 < 256 := Nat.mod_lt _ (by decide)
    have hx : 256 * (x / 256) + x % 256 = x := by omega
    have h1 := st1_step (msk 85 n) (x / 256) (x % 256) hb
    rw [hx] at h1
    have h2 := st2_step (msk 51 n) (st1 (msk 85 n) (x / 256)) (st1 85 (x % 256)) (bnd1 _ hb)
    have hb2 := bnd2 (st1 85 (x % 256)) (bnd1 _ hb)
    have h3 := st3_step (msk 15 n) (st2 (msk 51 n) (st1 (msk 85 n) (x / 256))) (st2 51 (st1 85 (x % 256))) hb2.1 hb2.2.1 hb2.2.2 (st2_nib _ _ n rfl)
    have ih := st_all n (x / 256) (by rw [Nat.pow_succ] at h; omega)
    show st3 (256 * msk 15 n + 15) (st2 (256 * msk 51 n + 51) (st1 (256 * msk 85 n + 85) x)) = 256 * bytesum n (x / 256) + popB (x % 256)
    rw [h1, h2, h3, ih, all3 _ hb]
theorem popc_bytes (x : Nat) (h : x < 256 ^ 8) : ∃ p0 p1 p2 p3 p4 p5 p6 p7 : Nat, p0 ≤ 8 ∧ p1 ≤ 8 ∧ p2 ≤ 8 ∧ p3 ≤ 8 ∧ p4 ≤ 8 ∧ p5 ≤ 8 ∧ p6 ≤ 8 ∧ p7 ≤ 8 ∧ popc x = p0 + p1 + p2 + p3 + p4 + p5 + p6 + p7 ∧
    bytesum 8 x = p0 + 256 * p1 + 65536 * p2 + 16777216 * p3 + 4294967296 * p4 + 1099511627776 * p5 + 281474976710656 * p6 + 72057594037927936 * p7 := by
  have step : ∀ z, popc z = popc (z / 256) + popB (z % 256) := fun z => by
    have := popc_byte (z / 256) (z % 256) (Nat.mod_lt _ (by decide))
    rwa [show 256 * (z / 256) + z % 256 = z from by omega] at this
  refine ⟨popB (x % 256), popB (x / 256 % 256), popB (x / 256 / 256 % 256), popB (x / 256 / 256 / 256 % 256), popB (x / 256 / 256 / 256 / 256 % 256), popB (x / 256 / 256 / 256 / 256 / 256 % 256), popB (x / 256 / 256 / 256 / 256 / 256 / 256 % 256), popB (x / 256 / 256 / 256 / 256 / 256 / 256 / 256 % 256), popB_le _, popB_le _, popB_le _, popB_le _, popB_le _, popB_le _, popB_le _, popB_le _, ?_, ?_⟩
  · rw [step x, step (x / 256), step (x / 256 / 256), step (x / 256 / 256 / 256), step (x / 256 / 256 / 256 / 256), step (x / 256 / 256 / 256 / 256 / 256), step (x / 256 / 256 / 256 / 256 / 256 / 256), step (x / 256 / 256 / 256 / 256 / 256 / 256 / 256),
      show x / 256 / 256 / 256 / 256 / 256 / 256 / 256 / 256 = 0 from by omega, popc_zero]
    omega
  · simp only [bytesum]
    omega
theorem ones_bnd (X s4 s5 s6 : Nat) (hX : X < 1000000000000000000) (h4 : s4 = X + X / 256) (h5 : s5 = s4 + s4 / 65536) (h6 : s6 = s5 + s5 / 4294967296) : s6 < 9223372036854775808 ∧ s5 < 9223372036854775808 ∧ s4 < 9223372036854775808 := by
  have l4 : s4 < 1100000000000000000 := by omega
  have l5 : s5 < 1200000000000000000 := by clear h4 h6; omega
  have l6 : s6 < 1300000000000000000 := by clear h4 h5; omega
  exact ⟨by omega, by omega, by omega⟩
theorem ones_fin (x s4 s5 s6 : Nat) (h : x < 256 ^ 8) (h4 : s4 = bytesum 8 x + bytesum 8 x / 256) (h5 : s5 = s4 + s4 / 65536) (h6 : s6 = s5 + s5 / 4294967296) : s6 % 128 = popc x ∧ s6 < 9223372036854775808 ∧ s5 < 9223372036854775808 ∧ s4 < 9223372036854775808 ∧ bytesum 8 x < 1000000000000000000 := by
  obtain ⟨p0, p1, p2, p3, p4, p5, p6, p7, b0, b1, b2, b3, b4, b5, b6, b7, hp, hb⟩ := popc_bytes x h
  clear h
  generalize bytesum 8 x = X at *
  generalize popc x = P at *
  have lX : X < 1000000000000000000 := by omega
  obtain ⟨L6, L5, L4⟩ := ones_bnd X s4 s5 s6 lX h4 h5 h6
  refine ⟨?_, L6, L5, L4, lX⟩
  clear L6 L5 L4 lX
  have d4 : X / 256 = p1 + 256 * p2 + 65536 * p3 + 16777216 * p4 + 4294967296 * p5 + 1099511627776 * p6 + 281474976710656 * p7 := by clear h4 h5 h6 hp; omega
  rw [d4] at h4
  clear d4
  have e4 : s4 = (p0 + p1) + 256 * (p1 + p2) + 65536 * ((p2 + p3) + 256 * (p3 + p4) + 65536 * (p4 + p5) + 16777216 * (p5 + p6) + 4294967296 * (p6 + p7) + 1099511627776 * p7) := by
    clear b0 b1 b2 b3 b4 b5 b6 b7 hp h5 h6
    omega
  clear h4 hb
  have d5 : s4 / 65536 = (p2 + p3) + 256 * (p3 + p4) + 65536 * (p4 + p5) + 16777216 * (p5 + p6) + 4294967296 * (p6 + p7) + 1099511627776 * p7 := by
    rw [e4, Nat.add_mul_div_left _ _ (by decide), Nat.div_eq_of_lt (by omega), Nat.zero_add]
  rw [d5] at h5
  clear d5
  have e5 : s5 = ((p0 + p1 + p2 + p3) + 256 * (p1 + p2 + p3 + p4) + 65536 * (p2 + p3 + p4 + p5) + 16777216 * (p3 + p4 + p5 + p6)) + 4294967296 * ((p4 + p5 + p6 + p7) + 256 * (p5 + p6 + p7) + 65536 * (p6 + p7) + 16777216 * p7) := by
    clear b0 b1 b2 b3 b4 b5 b6 b7 hp h6
    omega
  clear h5 e4
  have d6 : s5 / 4294967296 = (p4 + p5 + p6 + p7) + 256 * (p5 + p6 + p7) + 65536 * (p6 + p7) + 16777216 * p7 := by
    rw [e5, Nat.add_mul_div_left _ _ (by decide), Nat.div_eq_of_lt (by omega), Nat.zero_add]
  rw [d6] at h6
  clear d6
  have e6 : s6 = (p0 + p1 + p2 + p3 + p4 + p5 + p6 + p7) + 128 * (2 * (p1 + p2 + p3 + p4 + p5 + p6 + p7) + 512 * (p2 + p3 + p4 + p5 + p6 + p7) + 131072 * (p3 + p4 + p5 + p6 + p7) + 33554432 * (p4 + p5 + p6 + p7) + 8589934592 * (p5 + p6 + p7) + 2199023255552 * (p6 + p7) + 562949953421312 * p7) := by
    clear b0 b1 b2 b3 b4 b5 b6 b7 hp
    omega
  clear h6 e5
  rw [e6, Nat.add_mul_mod_self_left, hp]
  exact Nat.mod_eq_of_lt (by omega)
end Go.Proofs.YtpklkefnmoaaaaaGreatDoor

/- Places of nodes: how many nodes, the last leaf, peaks. Nothing of a program. -/
namespace Go.Proofs.YtpklkefnmoaaaaaGreatDoor
set_option linter.unusedVariables false
set_option linter.unusedSimpArgs false

/-- How many nodes n leaves have. -/
def nodesN (n : Nat) : Nat := 2 * n - popc n
/-- How many bits are set at the low end. -/
def t1 (n : Nat) : Nat := if h : n % 2 = 1 then 1 + t1 (n / 2) else 0
termination_by n
decreasing_by omega
theorem t1_even (k : Nat) : t1 (2 * k) = 0 := by rw [t1, dif_neg (by omega)]
theorem t1_odd (k : Nat) : t1 (2 * k + 1) = 1 + t1 k := by rw [t1, dif_pos (by omega), show (2 * k + 1) / 2 = k from by omega]
theorem two_cases (n : Nat) : (∃ k, n = 2 * k) ∨ ∃ k, n = 2 * k + 1 := by
  rcases Nat.mod_two_eq_zero_or_one n with h | h
  · exact .inl ⟨n / 2, by omega⟩
  · exact .inr ⟨n / 2, by omega⟩
theorem popc_even (k : Nat) : popc (2 * k) = popc k := by have := popc_bit k 0 (by omega); simpa using this
theorem popc_odd (k : Nat) : popc (2 * k + 1) = popc k + 1 := popc_bit k 1 (by omega)
theorem popc_le_self (n : Nat) : popc n ≤ n := by
  induction n using Nat.strongRecOn with
  | _ n ih =>
    rcases two_cases n with ⟨k, rfl⟩ | ⟨k, rfl⟩
    · rw [popc_even]
      by_cases h : k = 0
      · subst h; rw [popc_zero]; omega
      · have := ih k (by omega); omega
    · rw [popc_odd]
      have := ih k (by omega); omega
theorem popc_succ (n : Nat) : popc (n + 1) + t1 n = popc n + 1 := by
  induction n using Nat.strongRecOn with
  | _ n ih =>
    rcases two_cases n with ⟨k, rfl⟩ | ⟨k, rfl⟩
    · rw [popc_odd, popc_even, t1_even]
    · have := ih k (by omega)
      rw [show 2 * k + 1 + 1 = 2 * (k + 1) from by omega, popc_even, popc_odd, t1_odd]
      omega
theorem nodes_zero : nodesN 0 = 0 := by simp [nodesN]
theorem nodes_succ (n : Nat) : nodesN (n + 1) = nodesN n + 1 + t1 n := by
  have h1 := popc_succ n
  have h2 := popc_le_self n
  have h3 := popc_le_self (n + 1)
  unfold nodesN
  omega
theorem nodes_mono {a b : Nat} (h : a ≤ b) : nodesN a ≤ nodesN b := by
  induction b with
  | zero => obtain rfl : a = 0 := by omega
            exact Nat.le_refl _
  | succ b ih =>
    rcases Nat.lt_or_ge a (b + 1) with q | q
    · have := ih (by omega)
      rw [nodes_succ]; omega
    · obtain rfl : a = b + 1 := by omega
      exact Nat.le_refl _
theorem nodes_ge (n : Nat) : n ≤ nodesN n := by have := popc_le_self n; unfold nodesN; omega
theorem nodes_le (n : Nat) : nodesN n ≤ 2 * n := by unfold nodesN; omega
theorem popc_high (k : Nat) : ∀ r b, r < 2 ^ k → popc (2 ^ k * b + r) = popc b + popc r := by
  induction k with
  | zero => intro r b h; obtain rfl : r = 0 := by simpa using h
            simp [popc_zero]
  | succ k ih =>
    intro r b h
    rw [Nat.pow_succ] at h
    have hk := ih (r / 2) b (by omega)
    have hp : 2 ^ (k + 1) * b = 2 * (2 ^ k * b) := by rw [Nat.pow_succ]; simp [Nat.mul_comm, Nat.mul_left_comm]
    rw [hp, popc_two, popc_two r, show (2 * (2 ^ k * b) + r) % 2 = r % 2 from by omega, show (2 * (2 ^ k * b) + r) / 2 = 2 ^ k * b + r / 2 from by omega, hk]
    omega
theorem popc_one : popc 1 = 1 := by have := popc_odd 0; rw [popc_zero] at this; simpa using this
theorem popc_pow (k j : Nat) (h : j < 2 ^ k) : popc (2 ^ k + j) = 1 + popc j := by
  have := popc_high k j 1 h
  rw [Nat.mul_one, popc_one] at this
  exact this
theorem nodes_pow (k j : Nat) (h : j < 2 ^ k) : nodesN (2 ^ k + j) = 2 ^ (k + 1) - 1 + nodesN j := by
  have h1 := popc_pow k j h
  have h2 := popc_le_self j
  have h3 := Nat.two_pow_pos k
  unfold nodesN
  rw [h1, Nat.pow_succ]
  omega
theorem nodes_pow0 (k : Nat) : nodesN (2 ^ k) = 2 ^ (k + 1) - 1 := by
  have := nodes_pow k 0 (Nat.two_pow_pos k)
  rw [nodes_zero] at this
  simpa using this
theorem t1_pow (h q : Nat) (hq : 0 < q) : h ≤ t1 (q * 2 ^ h - 1) := by
  induction h with
  | zero => omega
  | succ h ih =>
    have hp := Nat.mul_pos hq (Nat.two_pow_pos h)
    have e : q * 2 ^ (h + 1) - 1 = 2 * (q * 2 ^ h - 1) + 1 := by rw [Nat.pow_succ, ← Nat.mul_assoc]; omega
    rw [e, t1_odd]
    omega
/-- The greatest n below 2^h of which not more than p nodes come. -/
def lastGo : Nat → Nat → Nat
  | 0, _ => 0
  | h + 1, p => if 2 ^ (h + 1) - 1 ≤ p then 2 ^ h + lastGo h (p - (2 ^ (h + 1) - 1)) else lastGo h p
theorem last_go : ∀ h p i, i < 2 ^ h → nodesN i ≤ p → (p < nodesN (i + 1) ∨ i + 1 = 2 ^ h) → lastGo h p = i
  | 0, p, i, hi, _, _ => by simp at hi; simp [lastGo, hi]
  | h + 1, p, i, hi, h1, h2 => by
    have hp := Nat.two_pow_pos h
    have e2 : 2 ^ (h + 1) = 2 * 2 ^ h := by rw [Nat.pow_succ]; omega
    by_cases hc : 2 ^ h ≤ i
    · obtain ⟨j, rfl⟩ : ∃ j, i = 2 ^ h + j := ⟨i - 2 ^ h, by omega⟩
      have hj : j < 2 ^ h := by omega
      have hn := nodes_pow h j hj
      have hc2 : 2 ^ (h + 1) - 1 ≤ p := by omega
      rw [lastGo, if_pos hc2, last_go h (p - (2 ^ (h + 1) - 1)) j hj (by omega) ?_]
      by_cases hj1 : j + 1 = 2 ^ h
      · exact .inr hj1
      · left
        have hn1 := nodes_pow h (j + 1) (by omega)
        rcases h2 with h2 | h2
        · rw [Nat.add_assoc] at h2; omega
        · omega
    · have hm := nodes_mono (show i + 1 ≤ 2 ^ h from by omega)
      rw [nodes_pow0] at hm
      have h2' : p < nodesN (i + 1) := by rcases h2 with h2 | h2
                                          · exact h2
                                          · omega
      rw [lastGo, if_neg (by omega)]
      exact last_go h p i (by omega) h1 (.inl h2')
theorem last_of (i r : Nat) (hi : i < 2 ^ 62) (hr : r ≤ t1 i) : lastGo 63 (nodesN i + r) = i :=
  last_go 63 _ i (Nat.lt_of_lt_of_le hi (Nat.pow_le_pow_right (by omega) (by omega))) (by omega) (.inl (by rw [nodes_succ]; omega))
/-- The place of the peak of height h. -/
def pk (n h : Nat) : Nat := nodesN (n / 2 ^ h * 2 ^ h - 1) + h
theorem pk_lt (n h : Nat) (hb : n / 2 ^ h % 2 = 1) : pk n h < nodesN n := by
  have hq : 0 < n / 2 ^ h := Nat.pos_of_ne_zero (by intro e; rw [e] at hb; simp at hb)
  have hm := Nat.mul_pos hq (Nat.two_pow_pos h)
  have ht := t1_pow h _ hq
  have hn := nodes_succ (n / 2 ^ h * 2 ^ h - 1)
  rw [show n / 2 ^ h * 2 ^ h - 1 + 1 = n / 2 ^ h * 2 ^ h from by omega] at hn
  have hle := nodes_mono (Nat.div_mul_le_self n (2 ^ h))
  unfold pk
  omega
/-- The peaks of the c greatest heights. -/
def pkL (n c : Nat) : List Nat := (((List.range c).map (62 - ·)).filter (fun h => n / 2 ^ h % 2 == 1)).map (pk n)
theorem pkL_succ (n c : Nat) : pkL n (c + 1) = if n / 2 ^ (62 - c) % 2 = 1 then pkL n c ++ [pk n (62 - c)] else pkL n c := by
  unfold pkL
  rw [List.range_succ, List.map_append, List.filter_append, List.map_append]
  by_cases h : n / 2 ^ (62 - c) % 2 = 1
  · rw [if_pos h]; simp [h]
  · rw [if_neg h]; simp [h]
theorem pkL_lt (n c : Nat) : ∀ p ∈ pkL n c, p < nodesN n := by
  intro p hp
  unfold pkL at hp
  obtain ⟨h, hh, rfl⟩ := List.mem_map.1 hp
  have := (List.mem_filter.1 hh).2
  exact pk_lt n h (by simpa using this)
theorem div_low (n a b : Nat) (h : a ≤ b) : n % 2 ^ (b + 1) / 2 ^ a % 2 = n / 2 ^ a % 2 := by
  obtain ⟨d, rfl⟩ : ∃ d, b = a + d := ⟨b - a, by omega⟩
  rw [show a + d + 1 = a + (d + 1) from by omega, Nat.pow_add, Nat.mod_mul_right_div_self, Nat.pow_succ, Nat.mul_comm (2 ^ d) 2, Nat.mod_mul_right_mod]
theorem pkL_length (n : Nat) (hn : n < 2 ^ 63) : ∀ c, c ≤ 63 → (pkL n c).length = popc (n / 2 ^ (63 - c))
  | 0, _ => by
    rw [show 63 - 0 = 63 from rfl, Nat.div_eq_of_lt hn, popc_zero]
    rfl
  | c + 1, h => by
    have ih := pkL_length n hn c (by omega)
    rw [pkL_succ, popc_two (n / 2 ^ (63 - (c + 1))), Nat.div_div_eq_div_mul, show 2 ^ (63 - (c + 1)) * 2 = 2 ^ (63 - c) from by rw [← Nat.pow_succ]; congr 1; omega, show 63 - (c + 1) = 62 - c from by omega, ← ih]
    by_cases hb : n / 2 ^ (62 - c) % 2 = 1
    · rw [if_pos hb, List.length_append, hb]; simp; omega
    · rw [if_neg hb]; omega
def peaksN (n : Nat) : List Nat := pkL n 63
theorem peaks_length (n : Nat) (hn : n < 2 ^ 63) : (peaksN n).length = popc n := by
  have := pkL_length n hn 63 (Nat.le_refl _)
  unfold peaksN
  simpa using this
theorem peaks_lt (n : Nat) : ∀ p ∈ peaksN n, p < nodesN n := pkL_lt n 63
end Go.Proofs.YtpklkefnmoaaaaaGreatDoor

/- Places: bits counted, nodes counted, walked. -/
namespace Go.Proofs.YtpklkefnmoaaaaaGreatDoor
open Go.RowKit
set_option linter.unusedVariables false
set_option linter.unusedSimpArgs false

theorem msk1 : msk 85 8 = 6148914691236517205 := by decide
theorem msk2 : msk 51 8 = 3689348814741910323 := by decide
theorem msk3 : msk 15 8 = 1085102592571150095 := by decide
theorem count_plain (x : Nat) (hx : x < 18446744073709551616) : ∃ s1 s2 s3 s4 s5 s6 : Nat, s1 = (x / 2 &&& 6148914691236517205) + (x &&& 6148914691236517205) ∧ s2 = (s1 / 4 &&& 3689348814741910323) + (s1 &&& 3689348814741910323) ∧
    s3 = ((s2 / 16 + s2) &&& 1085102592571150095) ∧ s4 = s3 + s3 / 256 ∧ s5 = s4 + s4 / 65536 ∧ s6 = s5 + s5 / 4294967296 ∧ s6 % 128 = popc x ∧ s6 < 9223372036854775808 ∧ s5 < 9223372036854775808 ∧ s4 < 9223372036854775808 ∧ s3 < 9223372036854775808 ∧ s2 < 9223372036854775808 ∧ s1 < 18446744073709551616 := by
  have h8 : x < 256 ^ 8 := by simpa using hx
  have hs := st_all 8 x h8
  rw [msk1, msk2, msk3] at hs
  obtain ⟨f1, f2, f3, f4, f5⟩ := ones_fin x _ _ _ h8 rfl rfl rfl
  have g1 : x / 2 &&& 6148914691236517205 ≤ 6148914691236517205 := Nat.and_le_right
  have g2 : x &&& 6148914691236517205 ≤ 6148914691236517205 := Nat.and_le_right
  refine ⟨_, _, _, _, _, _, rfl, rfl, rfl, rfl, rfl, rfl, ?_⟩
  have hs' : (((((x / 2 &&& 6148914691236517205) + (x &&& 6148914691236517205)) / 4 &&& 3689348814741910323) + (((x / 2 &&& 6148914691236517205) + (x &&& 6148914691236517205)) &&& 3689348814741910323)) / 16 +
    ((((x / 2 &&& 6148914691236517205) + (x &&& 6148914691236517205)) / 4 &&& 3689348814741910323) + (((x / 2 &&& 6148914691236517205) + (x &&& 6148914691236517205)) &&& 3689348814741910323))) &&& 1085102592571150095 = bytesum 8 x := hs
  rw [hs']
  have hb1 : (x / 2 &&& 6148914691236517205) + (x &&& 6148914691236517205) < 18446744073709551616 := by omega
  clear g1 g2
  generalize (x / 2 &&& 6148914691236517205) + (x &&& 6148914691236517205) = s1 at *
  have g3 : s1 / 4 &&& 3689348814741910323 ≤ 3689348814741910323 := Nat.and_le_right
  have g4 : s1 &&& 3689348814741910323 ≤ 3689348814741910323 := Nat.and_le_right
  exact ⟨f1, f2, f3, f4, by omega, by omega, hb1⟩
theorem i64_and127 (s : Nat) (h : s < 9223372036854775808) : bits BinOp.and IntKind.i64 (s : Int) 127 = ((s % 128 : Nat) : Int) := by
  show IntKind.i64.wrap ((BitVec.ofInt 64 (s : Int) &&& BitVec.ofInt 64 ((127 : Nat) : Int)).toNat : Int) = _
  rw [BitVec.toNat_and, ofInt_u64 s (by omega), ofInt_u64 127 (by omega)]
  have := Nat.and_two_pow_sub_one_eq_mod s 7
  rw [show (2 : Nat) ^ 7 - 1 = 127 from rfl, show (2 : Nat) ^ 7 = 128 from rfl] at this
  rw [this]
  exact IntWalk.i64_in _ (by omega)
set_option maxRecDepth 100000 in
theorem count_calls (x : Nat) (hx : x < 18446744073709551616) (w : World) : Calls Tryz.prog 219 #[.int .u64 x] w fun e w' => e = .returned (.int .i64 (popc x)) ∧ w' = w := by
  obtain ⟨s1, s2, s3, s4, s5, s6, h1, h2, h3, h4, h5, h6, hf, l6, l5, l4, l3, l2, l1⟩ := count_plain x hx
  have e1 : bits BinOp.and IntKind.u64 ((x : Int) / 2) 6148914691236517205 + bits BinOp.and IntKind.u64 (x : Int) 6148914691236517205 = (s1 : Nat) := by
    have q1 := u64_and_nat (x / 2) 6148914691236517205 (by omega) (by omega)
    have q2 := u64_and_nat x 6148914691236517205 (by omega) (by omega)
    rw [show ((x / 2 : Nat) : Int) = (x : Int) / 2 from by omega] at q1
    rw [show ((6148914691236517205 : Nat) : Int) = 6148914691236517205 from rfl] at q1 q2
    rw [q1, q2, h1]
    omega
  have e2 : bits BinOp.and IntKind.u64 ((s1 : Int) / 4) 3689348814741910323 + bits BinOp.and IntKind.u64 (s1 : Int) 3689348814741910323 = (s2 : Nat) := by
    have q1 := u64_and_nat (s1 / 4) 3689348814741910323 (by omega) (by omega)
    have q2 := u64_and_nat s1 3689348814741910323 (by omega) (by omega)
    rw [show ((s1 / 4 : Nat) : Int) = (s1 : Int) / 4 from by omega] at q1
    rw [show ((3689348814741910323 : Nat) : Int) = 3689348814741910323 from rfl] at q1 q2
    rw [q1, q2, h2]
    omega
  have e3 : bits BinOp.and IntKind.u64 ((s2 : Int) / 16 + (s2 : Int)) 1085102592571150095 = (s3 : Nat) := by
    have q1 := u64_and_nat (s2 / 16 + s2) 1085102592571150095 (by omega) (by omega)
    rw [show ((s2 / 16 + s2 : Nat) : Int) = (s2 : Int) / 16 + s2 from by omega] at q1
    rw [show ((1085102592571150095 : Nat) : Int) = 1085102592571150095 from rfl] at q1
    rw [q1, h3]
  have e4 : (s3 : Int) + (s3 : Int) / 256 = (s4 : Nat) := by omega
  have e5 : (s4 : Int) + (s4 : Int) / 65536 = (s5 : Nat) := by omega
  have e6 : (s5 : Int) + (s5 : Int) / 4294967296 = (s6 : Nat) := by omega
  have e7 : bits BinOp.and IntKind.i64 (s6 : Int) 127 = (popc x : Nat) := by rw [i64_and127 s6 l6, hf]
  clear h1 h2 h3 h4 h5 h6 hf
  go_enter Tryz.func219, Tryz.ntmps219
  go_wp2
  go_ret
  exact ⟨rfl, rfl⟩
theorem ones_calls (x : Nat) (hx : x < 18446744073709551616) (w : World) : Calls Tryz.prog 181 #[.int .u64 x] w fun e w' => e = .returned (.int .i64 (popc x)) ∧ w' = w := by
  have h := count_calls x hx w
  go_enter Tryz.func181, Tryz.ntmps181
  go_wp2_with (go_at_call 219; refine h.mono ?_; rintro e w1 ⟨rfl, hw1⟩; obtain rfl : w = w1 := hw1.symm)
  go_ret
  exact ⟨rfl, rfl⟩
theorem nodes_calls (x : Nat) (hx : x < 9223372036854775808) (w : World) : Calls Tryz.prog 126 #[.int .u64 x] w fun e w' => e = .returned (.int .u64 (nodesN x)) ∧ w' = w := by
  have h := ones_calls x (by omega) w
  have hp := popc_le_self x
  have e : 2 * (x : Int) - (popc x : Nat) = (nodesN x : Nat) := by unfold nodesN; omega
  have hn := nodes_ge x
  have hn2 := nodes_le x
  go_enter Tryz.func126, Tryz.ntmps126
  go_wp2_with (go_at_call 181; refine h.mono ?_; rintro e w1 ⟨rfl, hw1⟩; obtain rfl : w = w1 := hw1.symm)
  go_ret
  exact ⟨rfl, rfl⟩
theorem Nodes_calls (x : Nat) (hx : x ≤ 4611686018427387904) (w : World) : Calls Tryz.prog 44 #[.int .u64 x] w fun e w' => e = .returned (.tuple #[.int .u64 (nodesN x), .bool true]) ∧ w' = w := by
  have h := nodes_calls x (by omega) w
  go_enter Tryz.func44, Tryz.ntmps44
  go_wp2_with (go_at_call 126; refine h.mono ?_; rintro e w1 ⟨rfl, hw1⟩; obtain rfl : w = w1 := hw1.symm)
  go_ret2
  exact ⟨rfl, rfl⟩
theorem Nodes_far (x : Nat) (hx : 4611686018427387904 < x) (h2 : x < 18446744073709551616) (w : World) : Calls Tryz.prog 44 #[.int .u64 x] w fun e w' => e = .returned (.tuple #[.int .u64 0, .bool false]) ∧ w' = w := by
  go_enter Tryz.func44, Tryz.ntmps44
  go_wp2
  go_ret2
  exact ⟨rfl, rfl⟩
theorem two_pos (n : Nat) : 1 ≤ 2 ^ n := Nat.two_pow_pos n
theorem pow_i (n : Nat) : ((2 ^ n : Nat) : Int) = (2 : Int) ^ n := by simp
/-- What is left behind the heights from h on, and what they gave. -/
def restGo : Nat → Nat → Nat
  | 0, p => p
  | h + 1, p => if 2 ^ (h + 1) - 1 ≤ p then restGo h (p - (2 ^ (h + 1) - 1)) else restGo h p
theorem last_lt (h : Nat) : ∀ p, lastGo h p < 2 ^ h := by
  induction h with
  | zero => intro p; simp [lastGo]
  | succ h ih =>
    intro p
    have h1 := ih (p - (2 ^ (h + 1) - 1))
    have h2 := ih p
    have e : 2 ^ (h + 1) = 2 * 2 ^ h := by rw [Nat.pow_succ]; omega
    rw [lastGo]
    split <;> omega
set_option maxRecDepth 100000 in
theorem last_calls (p : Nat) (hp : p < 18446744073709551616) (w : World) : Calls Tryz.prog 231 #[.int .u64 p] w fun e w' => e = .returned (.int .u64 (lastGo 63 p)) ∧ w' = w := by
  go_enter Tryz.func231, Tryz.ntmps231
  go_wp2
  go_loopg [0, 3, 4] 63 (fun g pp nn hh wx => ∃ h p' n : Nat, h ≤ 63 ∧ g = h ∧ hh = .int .i64 ((h : Int) - 1) ∧ pp = .int .u64 (p' : Nat) ∧ nn = .int .u64 (n : Nat) ∧ p' ≤ p ∧ n + lastGo h p' = lastGo 63 p ∧ wx = w)
  case atStart => exact ⟨63, p, 0, by omega, rfl, rfl, rfl, rfl, Nat.le_refl _, by omega, rfl⟩
  case round =>
    obtain ⟨h, p', n, hh, hg, rfl, rfl, rfl, hpp, hsum, hw⟩ := hrel
    obtain rfl : wr = w := hw
    cases h with
    | zero =>
      rw [lastGo, Nat.add_zero] at hsum
      have HS := Lib.hid hsum
      have hb := last_lt 63 p
      rw [← hsum] at hb
      clear hsum hg
      have n1 : ¬ ((((0 : Nat) : Int) - 1) ≥ 0) := by omega
      have n2 : decide ((((0 : Nat) : Int) - 1) ≥ 0) = false := decide_eq_false n1
      go_wp2
      go_ret
      exact ⟨by rw [HS.out]; rfl, rfl⟩
    | succ h =>
      rw [show (((h + 1 : Nat) : Int) - 1) = (h : Int) from by omega]
      have hm := mask_calls (h + 1) (by omega) (by omega) wr
      rw [show ((h + 1 : Nat) : Int) = (h : Int) + 1 from by omega] at hm
      have h62 : h ≤ 62 := by omega
      have hlt := last_lt 63 p
      have hpw := Nat.pow_le_pow_right (show 0 < 2 from by omega) h62
      have hp1 := Nat.two_pow_pos h
      have E : IntKind.u64.wrap ((2 : Int) ^ h) = ((2 ^ h : Nat) : Int) := by
        rw [IntKind.wrap_u64, ← pow_i]
        omega
      rw [lastGo] at hsum
      by_cases hc : 2 ^ (h + 1) - 1 ≤ p'
      · rw [if_pos hc] at hsum
        have hn2 : n + 2 ^ h < 9223372036854775808 := by omega
        have HS := Lib.hid hsum
        clear hsum
        generalize 2 ^ (h + 1) - 1 = mk at *
        generalize 2 ^ h = ph at *
        have hc2 : (mk : Int) ≤ (p' : Int) := by omega
        go_wp2_with (go_at_call 105; refine hm.mono ?_; rintro e w1 ⟨rfl, hw1⟩; obtain rfl : wr = w1 := hw1.symm)
        go_roundg h
        case measure => omega
        case rel => exact ⟨h, p' - mk, n + ph, by omega, rfl, rfl, by rw [show ((p' - mk : Nat) : Int) = (p' : Int) - mk from by omega], by rw [show ((n + ph : Nat) : Int) = (n : Int) + ph from by omega], by omega, by have := HS.out; omega, rfl⟩
      · rw [if_neg hc] at hsum
        have HS := Lib.hid hsum
        clear hsum E
        generalize 2 ^ (h + 1) - 1 = mk at *
        have hc2 : ¬ ((mk : Int) ≤ (p' : Int)) := by omega
        go_wp2_with (go_at_call 105; refine hm.mono ?_; rintro e w1 ⟨rfl, hw1⟩; obtain rfl : wr = w1 := hw1.symm)
        go_roundg h
        case measure => omega
        case rel => exact ⟨h, p', n, by omega, rfl, rfl, rfl, rfl, hpp, HS.out, rfl⟩
end Go.Proofs.YtpklkefnmoaaaaaGreatDoor

/- Places: Place, Peaks walked. -/
namespace Go.Proofs.YtpklkefnmoaaaaaGreatDoor
open Go.RowKit
set_option linter.unusedVariables false
set_option linter.unusedSimpArgs false

theorem wrap_shl (a h : Nat) (hb : a * 2 ^ h < 18446744073709551616) : IntKind.u64.wrap ((a : Int) * 2 ^ h) = ((a * 2 ^ h : Nat) : Int) := by
  rw [IntKind.wrap_u64, ← pow_i]
  have : (a : Int) * (2 ^ h : Nat) = ((a * 2 ^ h : Nat) : Int) := by simp
  rw [this]
  omega
def PlaceP (w : World) (p : Nat) (e : Ending) (w' : World) : Prop := e = .returned (.tuple #[.int .u64 p, .bool true]) ∧ Chg [] w w'
set_option maxRecDepth 100000 in
theorem place_calls (h k : Nat) (hh : h ≤ 62) (hk : (k + 1) * 2 ^ h ≤ 4611686018427387904) (w : World) : Calls Tryz.prog 122 #[.agg #[.int .u8 h, .int .u64 k]] w (PlaceP w (nodesN ((k + 1) * 2 ^ h - 1) + h)) := by
  have hp := Nat.two_pow_pos h
  have hk1 : 0 < (k + 1) * 2 ^ h := Nat.mul_pos (by omega) hp
  have hpe : 2 ^ 62 = 2 ^ (62 - h) * 2 ^ h := by rw [← Nat.pow_add]; congr 1; omega
  have hkk : k + 1 ≤ 2 ^ (62 - h) := by
    apply Nat.le_of_mul_le_mul_right _ hp
    rw [← hpe]
    exact hk
  have hdiv : (4611686018427387904 : Int) / 2 ^ h = ((2 ^ (62 - h) : Nat) : Int) := by
    rw [show (4611686018427387904 : Int) = ((2 ^ 62 : Nat) : Int) from rfl, ← pow_i, hpe]
    exact_mod_cast Nat.mul_div_cancel _ hp
  have hkl : k < 4611686018427387904 := by
    have := Nat.le_mul_of_pos_right (k + 1) hp
    omega
  have hsh := wrap_shl (k + 1) h (by omega)
  have hno := fun w => nodes_calls ((k + 1) * 2 ^ h - 1) (by omega) w
  have hnl := nodes_le ((k + 1) * 2 ^ h - 1)
  rw [show (((k + 1) * 2 ^ h - 1 : Nat) : Int) = (((k + 1) * 2 ^ h : Nat) : Int) - 1 from by omega] at hno
  rw [show ((k + 1 : Nat) : Int) = (k : Int) + 1 from by omega] at hsh
  generalize (k + 1) * 2 ^ h = m at *
  generalize 2 ^ (62 - h) = q at *
  generalize nodesN (m - 1) = nn at *
  clear hpe hp
  go_enter Tryz.func122, Tryz.ntmps122
  have HNL := hnl
  go_upto_region 3 with (fail)
  have q1 : IntKind.u64.wrap ((k : Int) + 1) = (k : Int) + 1 := by rw [IntKind.wrap_u64]; omega
  have q2 : IntKind.u64.wrap ((m : Int) - 1) = (m : Int) - 1 := by rw [IntKind.wrap_u64]; omega
  have q3 : IntKind.u64.wrap ((nn : Int) + h) = (nn : Int) + h := by rw [IntKind.wrap_u64]; omega
  have q4 : IntKind.u64.wrap (h : Int) = (h : Int) := by rw [IntKind.wrap_u64]; omega
  have hc : Chg [] w (w.alloc (.cells #[.int .u8 (h : Int), .int .u64 (k : Int)] 178)) := (Chg.refl _ _).alloc _
  have hcell0 := blk_cell (blk_new w (.cells #[.int .u8 (h : Int), .int .u64 (k : Int)] 178)) 0 rfl
  have hcell1 := blk_cell (blk_new w (.cells #[.int .u8 (h : Int), .int .u64 (k : Int)] 178)) 1 rfl
  generalize w.alloc _ = w1 at *
  go_quiet ((go_at_call 126; exact Calls.quiet_of_same (hno _)))
  clear q1 q2 q3 q4 hsh hdiv
  go_wp2
  go_ret2
  exact ⟨by rw [show ((nn + h : Nat) : Int) = (nn : Int) + h from by omega]; rfl, hc.drewN _⟩
/-! Rows of numbers of the call's own. -/
theorem u_u64s : Tryz.prog.underlying 44 = some (.slice 38) := by kernel_rfl
theorem i_u64 : (Tryz.prog.info? 38).map (fun i => (i.zero, i.size, i.bytes)) = some (some (.int .u64 0), 1, 8) := by kernel_rfl
theorem infoOfU {P : Program} {t : TypeId} {z : Value} {n k : Nat} (h : (P.info? t).map (fun i => (i.zero, i.size, i.bytes)) = some (some z, n, k)) : ∃ i, P.info? t = some i ∧ i.zero = some z ∧ i.size = n ∧ i.bytes = k := by
  cases hi : P.info? t with
  | none => simp [hi] at h
  | some i => simp [hi] at h; exact ⟨i, rfl, h⟩
def UOwn (w : World) (B : Nat) (v : Value) (l : List Nat) : Prop := w.ownsRow B 38 1 v l.length (l.map fun (n : Nat) => Value.int .u64 (n : Int))
theorem UOwn.nil (w : World) (B : Nat) : UOwn w B (.slice none 0 0) [] := own_nil _ _ _ _
theorem UOwn.push {w : World} {B : Nat} {v : Value} {l : List Nat} (h : UOwn w B v l) (x : Nat) (hlen : l.length ≤ 1099511627776) (hB : B ≤ w.heap.size) (ty : TypeId) :
    ∃ v' w', (Builtin.append_ #[44, 44] ty #[v, .slice (some ⟨w.heap.size, 0, none⟩) 1 1]).run Tryz.prog (w.alloc (.cells #[.int .u64 x] 38)) = .ok v' w' ∧ UOwn w' B v' (l ++ [x]) ∧ Chg (ob v) w w' ∧ (∀ k ∈ ob v', k ∈ ob v ∨ w.heap.size ≤ k) := by
  obtain ⟨i, hi, hz, hsz, hby⟩ := infoOfU i_u64
  have hc : Chg [] w (w.alloc (.cells #[.int .u64 x] 38)) := (Chg.refl _ _).alloc _
  have h1 := own_chg h hc (by simp)
  obtain ⟨v', w', hr, h2, h3, h4⟩ := run_append_any (P := Tryz.prog) (w.alloc (.cells #[.int .u64 x] 38)) B 44 ty 38 i _ 1 8 u_u64s hi hz hsz hby rfl (by decide) v l.length _ h1 (some ⟨w.heap.size, 0, none⟩) 1 1 [.int .u64 x]
    ⟨rfl, fun _ => ⟨w.heap.size, 0, rfl, fun j u hu => by
      have : j = 0 := by
        cases j with
        | zero => rfl
        | succ j => simp at hu
      subst this
      simp at hu
      subst hu
      exact blk_cell (blk_new w _) 0 rfl⟩⟩ (by intro u hu; simp at hu; subst hu; rfl) (by unfold maxLen; omega) (by omega) (by have := hc.size; omega)
  refine ⟨v', w', hr, ?_, hc.of_nil.trans h3 (fun k hk => .inl hk), fun k hk => ?_⟩
  · unfold UOwn
    rw [List.length_append, List.map_append]
    exact h2
  · rcases h4 k hk with q | q
    · exact .inl q
    · right; have := hc.size; omega
theorem and1 (q : Nat) (h : q < 18446744073709551616) : bits BinOp.and IntKind.u64 (q : Int) 1 = ((q % 2 : Nat) : Int) := by
  have := u64_and_nat q 1 h (by omega)
  rw [show ((1 : Nat) : Int) = 1 from rfl] at this
  rw [this, Nat.and_one_is_mod]
def PeaksP (w : World) (l : List Nat) (e : Ending) (w' : World) : Prop := ∃ v, e = .returned v ∧ UOwn w' w.heap.size v l ∧ Chg [] w w'
set_option maxRecDepth 100000 in
theorem peaksl_calls (n : Nat) (hn : n ≤ 4611686018427387904) (w : World) : Calls Tryz.prog 42 #[.int .u64 n] w (PeaksP w (peaksN n)) := by
  have hnd : decide ((n : Int) ≤ 4611686018427387904) = true := decide_eq_true (by omega)
  go_enter Tryz.func42, Tryz.ntmps42
  go_wp2
  go_loopg [3, 4] 63 (fun g vv hh wx => ∃ c : Nat, c ≤ 63 ∧ g = 63 - c ∧ hh = .int .i64 (62 - (c : Int)) ∧ UOwn wx w.heap.size vv (pkL n c) ∧ Chg [] w wx)
  case atStart => exact ⟨0, by omega, rfl, rfl, UOwn.nil _ _, Chg.refl _ _⟩
  case round =>
    obtain ⟨c, hc, hg, rfl, hO, hC⟩ := hrel
    by_cases h63 : c = 63
    · subst h63
      clear hg
      go_wp2
      go_ret
      exact ⟨_, rfl, hO, hC⟩
    · have hcl : c ≤ 62 := by omega
      have hsu := pkL_succ n c
      have ec : ((62 - c : Nat) : Int) = 62 - (c : Int) := by omega
      obtain ⟨h, hh⟩ : ∃ h, h = 62 - c := ⟨_, rfl⟩
      rw [← hh] at hsu ec
      rw [← ec]
      have h62 : h ≤ 62 := by omega
      have hd : (n : Int) / 2 ^ h = ((n / 2 ^ h : Nat) : Int) := by rw [← pow_i]; simp
      by_cases hb : n / 2 ^ h % 2 = 1
      · rw [if_pos hb] at hsu
        have hq1 : 1 ≤ n / 2 ^ h := Nat.pos_of_ne_zero (by intro e; rw [e] at hb; simp at hb)
        have hle := Nat.div_mul_le_self n (2 ^ h)
        have hpl := fun w => place_calls h (n / 2 ^ h - 1) h62 (by rw [show n / 2 ^ h - 1 + 1 = n / 2 ^ h from by omega]; omega) w
        rw [show n / 2 ^ h - 1 + 1 = n / 2 ^ h from by omega, show ((n / 2 ^ h - 1 : Nat) : Int) = ((n / 2 ^ h : Nat) : Int) - 1 from by omega] at hpl
        have hlen : (pkL n c).length ≤ 1000 := by unfold pkL; rw [List.length_map]; exact Nat.le_trans (List.length_filter_le _ _) (by simp; omega)
        have hpk : nodesN (n / 2 ^ h * 2 ^ h - 1) + h = pk n h := rfl
        rw [hpk] at hpl
        have hle2 : n / 2 ^ h ≤ n := Nat.div_le_self _ _
        have HSU := Lib.hid hsu
        have HH := Lib.hid hh
        clear hsu hpk hh ec hle
        generalize n / 2 ^ h = q at *
        generalize pk n h = pp at *
        have hbt : (bits BinOp.and IntKind.u64 (q : Int) 1 == 1) = true := by rw [and1 q (by omega), beq_iff_eq]; omega
        clear hb
        go_upto_region 7 with (go_at_call 122; refine (hpl _).mono ?_; rintro e w1 ⟨rfl, hc1⟩)
        have hO1 : UOwn w1 w.heap.size _ (pkL n c) := own_chg hO hc1 (by simp)
        obtain ⟨v2, w2, hrun, hO2, hc2, hob⟩ := hO1.push pp (by omega) (by have := hC.size; have := hc1.size; omega) 44
        have hol := own_lt hO1
        have HW : Chg [] w w2 := (hC.nil_trans hc1).trans hc2 (fun k hk => .inr (hol k hk).1)
        clear hO hO1 hol hob hc2 hc1 hpl hd
        go_wp2_with (at_builtin; refine Lib.wpList_append_run _ rfl _ _ _ _ rfl _ _ rfl rfl _ _ hrun ?_)
        go_roundg (63 - (c + 1))
        case measure => omega
        case rel => exact ⟨c + 1, by omega, rfl, by rw [show (h : Int) - 1 = 62 - ((c + 1 : Nat) : Int) from by have := HH.out; omega], by rw [HSU.out]; exact hO2, HW⟩
      · rw [if_neg hb] at hsu
        have hle2 : n / 2 ^ h ≤ n := Nat.div_le_self _ _
        have HSU := Lib.hid hsu
        have HH := Lib.hid hh
        clear hsu hh ec
        generalize n / 2 ^ h = q at *
        have hbt : (bits BinOp.and IntKind.u64 (q : Int) 1 == 1) = false := by rw [and1 q (by omega), beq_eq_false_iff_ne]; omega
        clear hb
        go_wp2
        go_roundg (63 - (c + 1))
        case measure => omega
        case rel => exact ⟨c + 1, by omega, rfl, by rw [show (h : Int) - 1 = 62 - ((c + 1 : Nat) : Int) from by have := HH.out; omega], by rw [HSU.out]; exact hO, hC⟩
end Go.Proofs.YtpklkefnmoaaaaaGreatDoor

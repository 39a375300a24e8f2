/- The hash: Sum of a hasher, of parts; the texts; their hashes. -/
import Derived.Test.YtnodjlgihhinpaaDoorHaH
namespace Go.Proofs.YtnodjlgihhinpaaDoor
open Go.RowKit
set_option linter.unusedVariables false
set_option linter.unusedSimpArgs false

theorem HIs.lt {w : World} (h : HIs w) : 1 < w.heap.size ∧ 0 < w.heap.size := ⟨World.block_lt_of_cell? _ _ (h.k 0 (by decide)), World.block_lt_of_cell? _ _ (h.f 0 (by decide))⟩
def HashP (w : World) (l : List Nat) (e : Ending) (w' : World) : Prop := e = .returned (.agg (hV l)) ∧ Chg [] w w'
set_option maxRecDepth 100000 in
theorem hsum_calls (w : World) (b : Nat) (wd : Int) (h : HS) (hh : HaIs w b wd h) (hk : HIs w) (hn : h.n < 1152921504606846976) :
    Calls Tryd.prog 77 #[.pointer (some ⟨b, 0, none⟩)] w (HashP w (absorbs wd h (tailN h.n)).st) := by
  have hcl := clone_calls (w.alloc (.cells zeroHash 37)) b wd h (hh.chg ((Chg.refl [] w).alloc _) (by simp))
  have hlt := hk.lt
  have htl : (tailN h.n).length ≤ 1000 := by
    unfold tailN
    have : padN h.n < 64 := Nat.mod_lt _ (by decide)
    simp [bigN_length]
    omega
  have hok := absorbs_ok wd (tailN h.n) h hh.ok (tailN_lt _)
  have hsl := hok.st.1
  have hb := blk_lt hh.mem
  have hc97 : ∀ W, Chg [] w W → W.cell? ⟨b, 97, none⟩ = some (.int .u64 h.n) := fun W hc => (hh.chg hc (by simp)).cell97
  have hta := fun W => tail_calls W h.n (by omega)
  have HK := Lib.hid hk
  have HN := Lib.hid hn
  clear hh hk hn
  go_enter Tryd.func77, Tryd.ntmps77
  go_upto_region 2 with (go_at_call 96; refine hcl.mono ?_; rintro e w1 ⟨c, rfl, hcw, hch, hc1⟩)
  rw [World.size_alloc] at hcw
  have hC1 : Chg [] w w1 := ((Chg.refl [] w).alloc _).nil_trans hc1
  have y97 := hc97 w1 hC1
  have hcl1 := blk_lt hch.mem
  have hr0 := rng?_chg hc1 (rng?_alloc_at w w.heap.size 32 zeroHash 37 rfl zeroHash_size) (by omega) (by simp)
  have hm0 := may_chg hc1 (may_alloc_at w w.heap.size 32 zeroHash 37 rfl zeroHash_size) (by omega) (by simp)
  have hwr := fun (W : World) (v : Value) (h1 : HaIs W c wd h) (h2 : BsIs W v (tailN h.n)) (h3 : OffB v c) (h4 : HIs W) => write_calls W c wd h v (tailN h.n) h1 h2 h3 h4 ⟨by omega, by omega⟩ (by have := HN.out; omega)
  have HC := Lib.hid hch
  have HCC := Lib.hid hc1
  clear hch hcl hc97 hc1
  go_wp2_with (first
    | (go_at_call 97; refine (hta _).mono ?_; rintro e w2 ⟨v, rfl, hv, hvo, hc2⟩; have hch2 := HC.out.chg hc2 (by simp); have hk2 := HK.out.chg0 (hC1.nil_trans hc2); have hm2 := may_chg hc2 hm0 (by omega) (by simp))
    | (go_at_call 76; refine (hwr _ v hch2 hv (hvo c hcl1) hk2).mono ?_; rintro e w3 ⟨rfl, hch3, hc3⟩; have q1 := hch3.rngSt; have hm3 := may_chg hc3 hm2 (by omega) (by simp; omega); have hl3 := blk_lt hch3.mem))
  refine bodyPost_ret (res_Hash1 rfl _ _ rfl (rng?_setRng_same _ _ _ _ _ hm3 (by rw [hV_size]; exact hsl))) rfl ⟨rfl, ?_⟩
  refine Chg.setRng (Chg.trans (hC1.nil_trans hc2) hc3 ?_) (.inr (Nat.le_refl _)) _ _
  intro k hk
  simp at hk
  subst hk
  right
  omega
/-- The hash of a text. -/
def startN (wd : Int) : HS := ⟨cutN wd firstN, List.replicate 64 0, 0⟩
def sumN (wd : Int) (l : List Nat) : List Nat := (absorbs wd (absorbs wd (startN wd) l) (tailN l.length)).st
theorem sum_ok (wd : Int) (l : List Nat) (hl : ∀ x ∈ l, x < 256) : (sumN wd l).length = 32 ∧ ∀ x ∈ sumN wd l, x < 256 :=
  (absorbs_ok wd _ _ (absorbs_ok wd l _ (start_ok wd) hl) (tailN_lt _)).st
set_option maxRecDepth 100000 in
theorem sum_calls (w : World) (wd : Int) (g o cap : Nat) (ps : List (Value × List Nat)) (hp : Parts w g o ps) (hs : sumL ps ps.length ≤ 1099511627776) (hn : ps.length ≤ 1000000) (hk : HIs w) :
    Calls Tryd.prog 38 #[.int .i64 wd, .slice (some ⟨g, o, none⟩) ps.length cap] w (HashP w (sumN wd (catL ps ps.length))) := by
  have hnew := newh_calls (w.alloc (.cells zeroHash 37)) wd (hk.chg0 ((Chg.refl [] w).alloc _))
  have hlt := hk.lt
  have hlenc := catL_length ps
  go_enter Tryd.func38, Tryd.ntmps38
  go_wp2_with (go_at_call 75; refine hnew.mono ?_; rintro e w1 ⟨b, rfl, hbw, hb, hc1⟩)
  rw [World.size_alloc] at hbw
  have hC1 : Chg [] w w1 := ((Chg.refl [] w).alloc _).nil_trans hc1
  have hm0 := may_chg hc1 (may_alloc_at w w.heap.size 32 zeroHash 37 rfl zeroHash_size) (by omega) (by simp)
  have hb0 : HaIs w1 b wd (absorbs wd (startN wd) (catL ps 0)) := hb
  have HNW := Lib.hid hnew
  clear hnew hc1 hb
  obtain ⟨w0, rfl⟩ : ∃ w0 : World, w0 = w := ⟨_, rfl⟩
  go_loopg [12] ps.length (fun gh ii wx => ∃ i : Nat, i ≤ ps.length ∧ gh = ps.length - i ∧ ii = .int .i64 i ∧ HaIs wx b wd (absorbs wd (startN wd) (catL ps i)) ∧ Chg [] w0 wx ∧ may wx w0.heap.size 0 32 = true)
  case atStart => exact ⟨0, by omega, by omega, rfl, hb0, hC1, hm0⟩
  case round =>
    clear hb0 hC1 hm0
    obtain ⟨i, hi, hgi, rfl, hh, hC, hm⟩ := hrel
    by_cases hlt2 : i < ps.length
    · have hlt' : i < ps.length := hlt2
      obtain ⟨hc, hbs⟩ := (hp.chg0 hC) i hlt'
      have hoff := ((hp i hlt').2).off (k := b) (by omega)
      have hsu := catL_succ ps i hlt'
      have hle := sumL_le ps (i + 1) ps.length hlt'
      rw [← hlenc (i + 1), hsu, List.length_append] at hle
      have hbl := World.block_lt_of_cell? _ _ hc
      have hw := write_calls wr b wd _ ps[i].1 ps[i].2 hh hbs hoff (hk.chg0 hC) ⟨by omega, by omega⟩ (by rw [absorbs_n]; show 0 + _ + _ < _; omega)
      rw [← absorbs_app, ← hsu] at hw
      clear hh hbs hoff hsu hle hp hk hlenc
      generalize ps[i].1 = pv at *
      go_wp2_with (go_at_call 76; refine hw.mono ?_; rintro e w2 ⟨rfl, hh2, hc2⟩)
      have hm2 := may_chg hc2 hm (by omega) (by simp; omega)
      go_roundg (ps.length - (i + 1))
      case measure => omega
      case rel => exact ⟨i + 1, by omega, rfl, by go_num, hh2, hC.trans hc2 (by simp; omega), hm2⟩
    · obtain rfl : i = ps.length := by omega
      have hle := hlenc ps.length
      have hsum := hsum_calls wr b wd _ hh (hk.chg0 hC) (by rw [absorbs_n]; show 0 + _ < _; omega)
      have e : (absorbs wd (absorbs wd (startN wd) (catL ps ps.length)) (tailN (absorbs wd (startN wd) (catL ps ps.length)).n)).st = sumN wd (catL ps ps.length) := by
        rw [absorbs_n]
        show (absorbs wd _ (tailN (0 + _))).st = _
        rw [Nat.zero_add]
        rfl
      rw [e] at hsum
      have hsl := (sum_ok wd (catL ps ps.length) (catL_lt hp _ (Nat.le_refl _))).1
      clear hh hp hlenc hle e hk hgi
      generalize sumN wd (catL ps ps.length) = sm at *
      go_wp2_with (go_at_call 77; refine hsum.mono ?_; rintro e w3 ⟨rfl, hc3⟩; have hm3 := may_chg hc3 hm (by omega) (by simp))
      refine bodyPost_ret (res_Hash1 rfl _ _ rfl (rng?_setRng_same _ _ _ _ _ hm3 (by rw [hV_size]; exact hsl))) rfl ⟨rfl, ?_⟩
      exact (hC.nil_trans hc3).setRng (.inr (Nat.le_refl _)) _ _
end Go.Proofs.YtnodjlgihhinpaaDoor

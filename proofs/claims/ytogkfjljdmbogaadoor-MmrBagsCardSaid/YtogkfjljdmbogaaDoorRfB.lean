/- The document's hash: the width, cut off, the state ahead of all, the table, words. -/
import Derived.Test.YtogkfjljdmbogaaDoorRfA
import Derived.Test.YtogkfjljdmbogaaDoorPsB
import Derived.Test.YtogkfjljdmbogaaDoorHaF
import Derived.Deep.RegionHeld3
namespace Go.Proofs.YtogkfjljdmbogaaDoor
open Go.RowKit
set_option linter.unusedVariables false
set_option linter.unusedSimpArgs false

theorem r2width_calls (wd : Int) (w : World) : Calls Tryd.prog 86 #[.int .i64 wd] w fun e w' => e = .returned (.int .i64 (widthN wd : Nat)) ∧ w' = w := by
  by_cases h1 : wd < 1
  · have e : ((widthN wd : Nat) : Int) = 1 := by unfold widthN; omega
    rw [e]
    go_enter Tryd.func86, Tryd.ntmps86
    go_wp2
    go_ret
    exact ⟨rfl, rfl⟩
  · by_cases h2 : 32 < wd
    · have e : ((widthN wd : Nat) : Int) = 32 := by unfold widthN; omega
      rw [e]
      go_enter Tryd.func86, Tryd.ntmps86
      go_wp2
      go_ret
      exact ⟨rfl, rfl⟩
    · have e : ((widthN wd : Nat) : Int) = wd := by unfold widthN; omega
      rw [e]
      clear e
      go_enter Tryd.func86, Tryd.ntmps86
      go_wp2
      go_ret
      exact ⟨rfl, rfl⟩
/-- Bytes of which those from a to i are 0. -/
def cutTo (l : List Nat) (a i : Nat) : List Nat := l.take a ++ List.replicate (i - a) 0 ++ l.drop i
theorem cutTo_start (l : List Nat) (a : Nat) : cutTo l a a = l := by simp [cutTo]
theorem cutTo_length (l : List Nat) (a i : Nat) (ha : a ≤ i) (hi : i ≤ l.length) : (cutTo l a i).length = l.length := by simp [cutTo]; omega
theorem cutTo_succ (l : List Nat) (a i : Nat) (ha : a ≤ i) (hi : i < l.length) : (cutTo l a i).set i 0 = cutTo l a (i + 1) := by
  unfold cutTo
  have h1 : (l.take a ++ List.replicate (i - a) 0).length = i := by simp; omega
  rw [List.set_append_right _ _ (by omega), h1, Nat.sub_self, List.drop_eq_getElem_cons hi, List.set_cons_zero, show i + 1 - a = (i - a) + 1 from by omega, List.replicate_succ']
  simp
theorem cutTo_end (wd : Int) (l : List Nat) (h : l.length = 32) : cutTo l (widthN wd) 32 = cutN wd l := by
  unfold cutTo cutN
  rw [h, List.drop_of_length_le (by omega), List.append_nil]
theorem widthN_fit (wd : Int) : 1 ≤ widthN wd ∧ widthN wd ≤ 32 := by unfold widthN; omega
set_option maxRecDepth 100000 in
theorem r2cut_calls (w : World) (wd : Int) (l : List Nat) (hs : l.length = 32) (hb : ∀ x ∈ l, x < 256) : Calls Tryd.prog 76 #[.int .i64 wd, .agg (hV l)] w (Res w [] (.agg (hV (cutN wd l)))) := by
  have hwf := widthN_fit wd
  have hwi := fun W => r2width_calls wd W
  have hend := cutTo_end wd l hs
  generalize widthN wd = a at *
  generalize hC : cutN wd l = C at *
  have hCl : C.length = 32 := by rw [← hend, cutTo_length _ _ _ hwf.2 (by omega)]; exact hs
  have hCb : ∀ x ∈ C, x < 256 := by rw [← hC]; exact cut_lt wd l hb
  clear hC
  obtain ⟨w0, rfl⟩ : ∃ w0 : World, w0 = w := ⟨_, rfl⟩
  have hm0 : may ((w0.alloc (.cells (hV l) 26)).alloc (.cells zeroHash 26)) (w0.heap.size + 1) 0 32 = true := may_hash2 w0 l
  have hbx : ((w0.alloc (.cells (hV l) 26)).alloc (.cells zeroHash 26)).heap[w0.heap.size]? = some (.cells (hV (cutTo l a a)) 26 (0, 0)) := by rw [cutTo_start]; exact blk_alloc (blk_new w0 _) _
  have hch : Chg [] w0 ((w0.alloc (.cells (hV l) 26)).alloc (.cells zeroHash 26)) := ((Chg.refl _ _).alloc _).alloc _
  have hsz : (hV l).size = 32 := by rw [hV_size]; exact hs
  go_enter Tryd.func76, Tryd.ntmps76
  go_wp2_with (go_at_call 86; refine (hwi _).mono ?_; rintro e w1 ⟨rfl, hw1⟩; subst hw1)
  generalize (w0.alloc (.cells (hV l) 26)).alloc (.cells zeroHash 26) = w2 at *
  go_loopg [5] (32 - a) (fun g ii wx => ∃ i : Nat, a ≤ i ∧ i ≤ 32 ∧ g = 32 - i ∧ ii = .int .i64 i ∧ wx.heap[w0.heap.size]? = some (.cells (hV (cutTo l a i)) 26 (0, 0)) ∧ may wx (w0.heap.size + 1) 0 32 = true ∧ Chg [] w0 wx)
  case atStart => exact ⟨a, Nat.le_refl _, hwf.2, rfl, rfl, hbx, hm0, hch⟩
  case round =>
    clear hbx hm0 hch
    obtain ⟨i, hai, hi, hg, rfl, hbx, hm, hC⟩ := hrel
    have hlen := cutTo_length l a i hai (by omega)
    by_cases hlt : i < 32
    · have hlt' := hlt
      have hset := cutTo_succ l a i hai (by omega)
      have hcell := blk_cell hbx i (hV_at (cutTo l a i) i (by omega))
      have hfr := blk_frozen hbx i
      have hnx := blk_set hbx i (.int .u8 0)
      have e0 : (Value.int .u8 0) = .int .u8 ((0 : Nat) : Int) := rfl
      rw [e0, hV_set, hset] at hnx
      have hnx2 : (wr.setCell ⟨w0.heap.size, i, none⟩ (.int .u8 0)).heap[w0.heap.size]? = some (.cells (hV (cutTo l a (i + 1))) 26 (0, 0)) := hnx
      have hmx : may (wr.setCell ⟨w0.heap.size, i, none⟩ (.int .u8 0)) (w0.heap.size + 1) 0 32 = true := may_chg (F := [w0.heap.size]) ((Chg.refl _ _).setCell (by simp) _) hm (by omega) (by simp)
      have hcx : Chg [] w0 (wr.setCell ⟨w0.heap.size, i, none⟩ (.int .u8 0)) := hC.setCell (.inr (Nat.le_refl _)) _
      have n0 : (0 : Int) ≤ (i : Int) := by omega
      have n1 : (i : Int) < 32 := by omega
      have HNX := Lib.hid hnx2
      have HMX := Lib.hid hmx
      have HCX := Lib.hid hcx
      have HG := Lib.hid hg
      have hbl := blk_lt hbx
      clear hset hnx hnx2 hmx hcx hg hbx hm hlen e0
      go_wp2
      go_roundg (32 - (i + 1))
      case measure => rw [HG.out]; omega
      case rel => exact ⟨i + 1, by omega, by omega, rfl, by go_num, HNX.out, HMX.out, HCX.out⟩
    · obtain rfl : i = 32 := by omega
      rw [hend] at hbx
      have hr := hash_rng hbx hCl
      have hl := blk_lt hbx
      have hs2 : (hV C).size = 32 := by rw [hV_size]; exact hCl
      have ho2 := (hV_is C hCl hCb).one
      clear hbx hend hg hlen
      go_wp2
      refine bodyPost_ret (res_Hash1 rfl _ _ rfl (rng?_setRng_same _ _ _ _ _ hm hs2)) rfl ⟨rfl, ?_⟩
      exact hC.setRng (.inr (by omega)) _ _
set_option maxRecDepth 100000 in
theorem r2begin_calls (w : World) (wd : Int) : Calls Tryd.prog 71 #[.int .i64 wd] w (Res w [] (.agg (hV (cutN wd firstN)))) := by
  have hc := r2cut_calls (w.alloc (.cells zeroHash 26)) wd firstN rfl (by decide)
  have hm0 := may_alloc_at w w.heap.size 32 zeroHash 26 rfl zeroHash_size
  have hl := cut_length wd firstN rfl
  have hb := cut_lt wd firstN (by decide)
  have hi := hV_is _ hl hb
  have hs := hi.1
  have ho := hi.one
  generalize cutN wd firstN = C at *
  have hfirst : hV firstN = #[.int .u8 106, .int .u8 9, .int .u8 230, .int .u8 103, .int .u8 187, .int .u8 103, .int .u8 174, .int .u8 133, .int .u8 60, .int .u8 110, .int .u8 243, .int .u8 114, .int .u8 165, .int .u8 79, .int .u8 245, .int .u8 58, .int .u8 81, .int .u8 14, .int .u8 82, .int .u8 127, .int .u8 155, .int .u8 5, .int .u8 104, .int .u8 140, .int .u8 31, .int .u8 131, .int .u8 217, .int .u8 171, .int .u8 91, .int .u8 224, .int .u8 205, .int .u8 25] := rfl
  have hbd : (bdX 26 #[(0, .int .u8 106), (1, .int .u8 9), (2, .int .u8 230), (3, .int .u8 103), (4, .int .u8 187), (5, .int .u8 103), (6, .int .u8 174), (7, .int .u8 133), (8, .int .u8 60), (9, .int .u8 110), (10, .int .u8 243), (11, .int .u8 114), (12, .int .u8 165), (13, .int .u8 79), (14, .int .u8 245), (15, .int .u8 58), (16, .int .u8 81), (17, .int .u8 14), (18, .int .u8 82), (19, .int .u8 127), (20, .int .u8 155), (21, .int .u8 5), (22, .int .u8 104), (23, .int .u8 140), (24, .int .u8 31), (25, .int .u8 131), (26, .int .u8 217), (27, .int .u8 171), (28, .int .u8 91), (29, .int .u8 224), (30, .int .u8 205), (31, .int .u8 25)]).run Tryd.prog (w.alloc (.cells zeroHash 26)) = .ok (.agg (hV firstN)) (w.alloc (.cells zeroHash 26)) := by kernel_rfl
  clear hfirst
  generalize hV firstN = F at *
  go_enter Tryd.func71, Tryd.ntmps71
  go_wp2_with (go_at_call 76; refine hc.mono ?_; rintro e w3 ⟨rfl, hc3⟩; have hm3 := may_chg hc3 hm0 (by omega) (by simp))
  refine bodyPost_ret (res_Hash1 rfl _ _ rfl (rng?_setRng_same _ _ _ _ _ hm3 hs)) rfl ⟨rfl, ?_⟩
  exact (((Chg.refl [] w).alloc _).nil_trans hc3).setRng (.inr (Nat.le_refl _)) _ _
end Go.Proofs.YtogkfjljdmbogaaDoor

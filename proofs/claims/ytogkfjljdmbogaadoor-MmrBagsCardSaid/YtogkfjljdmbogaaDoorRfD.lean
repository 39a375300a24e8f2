/- The document's hash: the table, one step. -/
import Derived.Test.YtogkfjljdmbogaaDoorRfC
import Derived.Test.YtogkfjljdmbogaaDoorTrC
namespace Go.Proofs.YtogkfjljdmbogaaDoor
open Go.RowKit
set_option linter.unusedVariables false
set_option linter.unusedSimpArgs false

def tabC : Array Value := (kTab.map fun (n : Nat) => Value.int .u64 (n : Int)).toArray
theorem hold_tab (ps : Array (Nat × Value)) : Instr.buildSlice 57 64 ps = bsX 57 64 ps := rfl
theorem bs_tab (w : World) : (bsX 57 64 #[(0, .int .u64 1116352408), (1, .int .u64 1899447441), (2, .int .u64 3049323471), (3, .int .u64 3921009573), (4, .int .u64 961987163), (5, .int .u64 1508970993), (6, .int .u64 2453635748), (7, .int .u64 2870763221), (8, .int .u64 3624381080), (9, .int .u64 310598401), (10, .int .u64 607225278), (11, .int .u64 1426881987), (12, .int .u64 1925078388), (13, .int .u64 2162078206), (14, .int .u64 2614888103), (15, .int .u64 3248222580), (16, .int .u64 3835390401), (17, .int .u64 4022224774), (18, .int .u64 264347078), (19, .int .u64 604807628), (20, .int .u64 770255983), (21, .int .u64 1249150122), (22, .int .u64 1555081692), (23, .int .u64 1996064986), (24, .int .u64 2554220882), (25, .int .u64 2821834349), (26, .int .u64 2952996808), (27, .int .u64 3210313671), (28, .int .u64 3336571891), (29, .int .u64 3584528711), (30, .int .u64 113926993), (31, .int .u64 338241895), (32, .int .u64 666307205), (33, .int .u64 773529912), (34, .int .u64 1294757372), (35, .int .u64 1396182291), (36, .int .u64 1695183700), (37, .int .u64 1986661051), (38, .int .u64 2177026350), (39, .int .u64 2456956037), (40, .int .u64 2730485921), (41, .int .u64 2820302411), (42, .int .u64 3259730800), (43, .int .u64 3345764771), (44, .int .u64 3516065817), (45, .int .u64 3600352804), (46, .int .u64 4094571909), (47, .int .u64 275423344), (48, .int .u64 430227734), (49, .int .u64 506948616), (50, .int .u64 659060556), (51, .int .u64 883997877), (52, .int .u64 958139571), (53, .int .u64 1322822218), (54, .int .u64 1537002063), (55, .int .u64 1747873779), (56, .int .u64 1955562222), (57, .int .u64 2024104815), (58, .int .u64 2227730452), (59, .int .u64 2361852424), (60, .int .u64 2428436474), (61, .int .u64 2756734187), (62, .int .u64 3204031479), (63, .int .u64 3329325298)]).run Tryd.prog w = .ok (.slice (some ⟨w.heap.size, 0, none⟩) 64 64) (w.alloc (.cells tabC 22)) := by kernel_rfl
section
attribute [local go_sem ↓] hold_tab
attribute [local go_sem] bs_tab
set_option maxRecDepth 100000 in
theorem r2table_calls (w : World) : Calls Tryd.prog 77 #[] w fun e w' => e = .returned (.slice (some ⟨w.heap.size, 0, none⟩) 64 64) ∧ w' = w.alloc (.cells tabC 22) := by
  go_enter Tryd.func77, Tryd.ntmps77
  go_wp2
  go_ret
  exact ⟨rfl, rfl⟩
end
/-- A list of numbers to be read. -/
def UsIs (w : World) (v : Value) (l : List Nat) : Prop := ∃ b o cap, v = .slice (some ⟨b, o, none⟩) l.length cap ∧ b < w.heap.size ∧ ∀ i, i < l.length → w.cell? ⟨b, o + i, none⟩ = some (.int .u64 (l.getD i 0 : Nat))
theorem UsIs.chg0 {w w' : World} {v : Value} {l : List Nat} (h : UsIs w v l) (hc : Chg [] w w') : UsIs w' v l := by
  obtain ⟨b, o, cap, hv, hb, hr⟩ := h
  exact ⟨b, o, cap, hv, by have := hc.size; omega, fun i hi => (hc.cell (p := ⟨b, o + i, none⟩) hb (by simp)).trans (hr i hi)⟩
theorem UOwn.us {w : World} {B : Nat} {v : Value} {l : List Nat} (h : UOwn w B v l) (h0 : l ≠ []) : UsIs w v l := by
  obtain ⟨a, cap, rfl, hc⟩ := h.cells
  rcases hc with rfl | ⟨b, o, rfl, hb, hr⟩
  · exact absurd rfl h0
  · refine ⟨b, o, cap, rfl, hb, fun i hi => ?_⟩
    rw [hr i hi]
    simp [List.getD, hi]
theorem tab_us (w : World) : UsIs (w.alloc (.cells tabC 22)) (.slice (some ⟨w.heap.size, 0, none⟩) 64 64) kTab := by
  refine ⟨w.heap.size, 0, 64, rfl, by simp, fun i hi => ?_⟩
  rw [Nat.zero_add]
  refine blk_cell (blk_new w _) i ?_
  unfold tabC
  rw [← Array.getElem?_toList]
  have hi' : i < kTab.length := hi
  simp [List.getD, hi']
end Go.Proofs.YtogkfjljdmbogaaDoor

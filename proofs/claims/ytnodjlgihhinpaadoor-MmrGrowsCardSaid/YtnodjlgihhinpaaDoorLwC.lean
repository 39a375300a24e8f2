/- Trees of given leaves in memory. -/
import Derived.Test.YtnodjlgihhinpaaDoorLwB
namespace Go.Proofs.YtnodjlgihhinpaaDoor
open Go.RowKit
set_option linter.unusedVariables false
set_option linter.unusedSimpArgs false

structure TreeOf (w0 w : World) (b : Nat) (t : TS) (wd : Int) (ls : List (Array Value)) : Prop where
  tr : TrIs w b t
  wdE : t.wd = widthI wd
  size : t.size = ls.length
  view : t.s.view.same (treeV (widthI wd) ls)
  fl : t.s.view.full
  al : t.s.alive = nodesN ls.length
  low : ∀ k ∈ t.foot b, w0.heap.size ≤ k
  chg : Chg [] w0 w
theorem TreeOf.n {w0 w : World} {b : Nat} {t : TS} {wd : Int} {ls : List (Array Value)} (h : TreeOf w0 w b t wd ls) : t.s.n = nodesN ls.length := h.view.1.trans (forest (widthI wd) ls).n
theorem TreeOf.full {w0 w : World} {b : Nat} {t : TS} {wd : Int} {ls : List (Array Value)} (h : TreeOf w0 w b t wd ls) : TFull t := ⟨by rw [h.n, h.size], h.fl, by rw [h.al, h.n]⟩
theorem TreeOf.chgF {w0 w w' : World} {b : Nat} {t : TS} {wd : Int} {ls : List (Array Value)} {F : List Nat} (h : TreeOf w0 w b t wd ls) (hc : Chg F w w') (hF : ∀ k ∈ t.foot b, k ∉ F) (h0 : Chg [] w0 w') : TreeOf w0 w' b t wd ls :=
  ⟨h.tr.chg hc hF, h.wdE, h.size, h.view, h.fl, h.al, h.low, h0⟩
theorem TreeOf.chg0 {w0 w w' : World} {b : Nat} {t : TS} {wd : Int} {ls : List (Array Value)} (h : TreeOf w0 w b t wd ls) (hc : Chg [] w w') : TreeOf w0 w' b t wd ls := h.chgF hc (by simp) (h.chg.nil_trans hc)
theorem TreeOf.getH {w0 w : World} {b : Nat} {t : TS} {wd : Int} {ls : List (Array Value)} (h : TreeOf w0 w b t wd ls) (p : Nat) : t.s.getH p = (treeV (widthI wd) ls).get p := by rw [← view_get, h.view.2]
theorem SS.node_nil {s : SS} (h : s.cks = []) (p : Nat) : s.node p = none := by simp [SS.node, SS.look, h]
theorem TreeOf.zero {w0 w1 : World} {b : Nat} {t : TS} {wd : Int} (h1 : TrIs w1 b t) (h2 : Chg [] w0 w1) (h3 : ∀ k ∈ t.foot b, w0.heap.size ≤ k) (h4 : t.wd = widthI wd) (h5 : t.size = 0) (h6 : t.s.n = 0) (h7 : t.s.cks = []) : TreeOf w0 w1 b t wd [] := by
  refine ⟨h1, h4, h5, ⟨h6, fun p => ?_⟩, (TFull.zero h5 h6 h7).full, ?_, h3, h2⟩
  · show (if p < t.s.n then _ else zeroHash) = (if p < 0 then _ else zeroHash)
    rw [if_neg (by omega), if_neg (by omega)]
  · rw [List.length_nil, nodes_zero]
    simp [SS.alive, h7]
/-- One leaf appended. -/
def TreeApp (w0 w : World) (b : Nat) (t : TS) (wd : Int) (ls : List (Array Value)) (x : Array Value) (e : Ending) (w2 : World) : Prop :=
  e = .returned (.int .u64 ls.length) ∧ ∃ t', TreeOf w0 w2 b t' wd (ls ++ [x]) ∧ Chg (t.foot b) w w2 ∧ (∀ k ∈ t'.foot b, k ∈ t.foot b ∨ w.heap.size ≤ k)
theorem TreeOf.app {w0 w w2 : World} {b : Nat} {t : TS} {wd : Int} {ls : List (Array Value)} {x : Array Value} {e : Ending} (h : TreeOf w0 w b t wd ls) (ha : AppP w b t x e w2) : TreeApp w0 w b t wd ls x e w2 := by
  obtain ⟨he, t', h1, h2, h3, h4, h5, h6, h7, h8, h9, h10, h11⟩ := ha
  have hs := h.chg.size
  refine ⟨by rw [he, h.size], t', ⟨h1, h3.trans h.wdE, by rw [h4, h.size, List.length_append]; rfl, ?_, ?_, ?_, ?_, h.chg.trans h10 (fun k hk => .inr (h.low k hk))⟩, h10, h11⟩
  · rw [h5, treeV_snoc, h.wdE, h.size]
    exact app_same _ _ h.view x
  · rw [h5]
    exact app_full _ _ h.fl x
  · rw [h7, h.al, List.length_append, List.length_singleton, nodes_succ, h.size]
  · intro k hk
    rcases h11 k hk with q | q
    · exact h.low k q
    · omega
theorem TreeOf.call {w0 w : World} {b : Nat} {t : TS} {wd : Int} {ls : List (Array Value)} (h : TreeOf w0 w b t wd ls) {x : Array Value} (hx : IsHash x) (hk : HIs w) (hl : ls.length ≤ 1000000) :
    Calls Tryd.prog 25 #[.pointer (some ⟨b, 0, none⟩), .agg x] w (TreeApp w0 w b t wd ls x) := by
  have hn := nodes_le ls.length
  have hz := h.size
  have ha := h.al
  exact (append_calls w b t x h.tr hx hk (by omega) (by rw [hz]; exact h.n) (by omega)).mono fun e w2 hp => h.app hp
/-- The root over these leaves. -/
def rootL (wd : Int) (ls : List (Array Value)) : Array Value := bagR (widthI wd) ls.length ((peaksN ls.length).map (treeV (widthI wd) ls).get)
theorem TreeOf.root {w0 w : World} {b : Nat} {t : TS} {wd : Int} {ls : List (Array Value)} (h : TreeOf w0 w b t wd ls) : t.root = rootL wd ls := by
  rw [h.full.root]
  unfold rootAt rootL
  rw [h.wdE, h.size]
  congr 1
  apply List.map_congr_left
  intro p _
  exact h.getH p
theorem treeV_is (wd : Int) (ls : List (Array Value)) {w0 w : World} {b : Nat} {t : TS} (h : TreeOf w0 w b t wd ls) (p : Nat) : IsHash ((treeV (widthI wd) ls).get p) := by
  rw [← h.getH]
  exact IsHash.getH h.tr.st p
theorem TreeOf.rootIs {w0 w : World} {b : Nat} {t : TS} {wd : Int} {ls : List (Array Value)} (h : TreeOf w0 w b t wd ls) : IsHash (rootL wd ls) := by
  rw [← h.root, h.full.root]
  exact rootAt_is h.tr _
theorem TreeOf.rootCall {w0 w : World} {b : Nat} {t : TS} {wd : Int} {ls : List (Array Value)} (h : TreeOf w0 w b t wd ls) (hk : HIs w) (hl : ls.length ≤ 1000000) :
    Calls Tryd.prog 28 #[.pointer (some ⟨b, 0, none⟩)] w (Res w [] (.agg (rootL wd ls))) := by
  have := tRoot_calls w b t h.tr (by rw [h.size]; omega) hk
  rwa [h.root] at this
theorem TreeOf.nodeCall {w0 w : World} {b : Nat} {t : TS} {wd : Int} {ls : List (Array Value)} (h : TreeOf w0 w b t wd ls) (p : Nat) (hp : p < nodesN ls.length) (hl : ls.length ≤ 1000000) :
    Calls Tryd.prog 15 #[.pointer (some ⟨b, 0, none⟩), .int .u64 p] w (Res w [] (.tuple #[.agg ((treeV (widthI wd) ls).get p), .int .i64 0])) := by
  have hn := nodes_le ls.length
  have := tNode_calls w b p t h.tr (by omega)
  rwa [h.getH, h.full.getE (by rw [h.n]; exact hp)] at this
theorem TreeOf.nodeFar {w0 w : World} {b : Nat} {t : TS} {wd : Int} {ls : List (Array Value)} (h : TreeOf w0 w b t wd ls) (p : Nat) (hp : nodesN ls.length ≤ p) (hl : p < 18446744073709551616) :
    Calls Tryd.prog 15 #[.pointer (some ⟨b, 0, none⟩), .int .u64 p] w (Res w [] (.tuple #[.agg zeroHash, .int .i64 31])) := by
  have := tNode_calls w b p t h.tr hl
  have hn := h.n
  have e1 : t.s.getH p = zeroHash := by unfold SS.getH; rw [if_neg (by omega)]
  have e2 : t.s.getE p = 31 := by unfold SS.getE; rw [if_neg (by omega)]
  rwa [e1, e2] at this
/-- The peaks over these leaves. -/
def peaksV (wd : Int) (ls : List (Array Value)) : List (Array Value) := (peaksN ls.length).map (treeV (widthI wd) ls).get
theorem TreeOf.peaksCall {w0 w : World} {b : Nat} {t : TS} {wd : Int} {ls : List (Array Value)} (h : TreeOf w0 w b t wd ls) (hl : ls.length ≤ 1000000) :
    Calls Tryd.prog 16 #[.pointer (some ⟨b, 0, none⟩)] w fun e w' => ∃ v, e = .returned v ∧ HOwn w' w.heap.size v (peaksV wd ls) ∧ Chg [] w w' := by
  have hpk := tPeaks_calls w b t h.tr (by rw [h.size]; omega)
  have e : PeaksOf t.s (peaksN t.size) = peaksV wd ls := by
    unfold PeaksOf peaksV
    rw [if_pos (h.full.peaksE (Nat.le_refl _)), h.size]
    apply List.map_congr_left
    intro p _
    exact h.getH p
  rwa [e] at hpk
end Go.Proofs.YtnodjlgihhinpaaDoor

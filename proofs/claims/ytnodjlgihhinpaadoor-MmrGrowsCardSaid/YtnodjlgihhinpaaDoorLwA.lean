/- Trees of which all nodes live: what stays behind an append. -/
import Derived.Test.YtnodjlgihhinpaaDoorTrB
import Derived.Test.YtnodjlgihhinpaaDoorTrF
namespace Go.Proofs.YtnodjlgihhinpaaDoor
open Go.RowKit
set_option linter.unusedVariables false
set_option linter.unusedSimpArgs false

/-- A view of which all nodes live. -/
def NV.full (v : NV) : Prop := ∀ p, p < v.n → (v.node p).isSome = true
theorem NV.push_full {v : NV} (h : v.full) (x : Array Value) : (v.push x).full := by
  intro p hp
  show (if p = v.n then some x else v.node p).isSome = true
  by_cases e : p = v.n
  · rw [if_pos e]; rfl
  · rw [if_neg e]
    exact h p (by have : p < v.n + 1 := hp; omega)
theorem climb_full (wd : Int) : ∀ (k h : Nat) (v : NV) (x : Array Value), v.full → (climb wd k h v x).full
  | 0, _, _, _, hv => hv
  | k + 1, h, v, x, hv => climb_full wd k (h + 1) _ _ (NV.push_full hv _)
theorem app_full (wd : Int) (size : Nat) {v : NV} (h : v.full) (x : Array Value) : (appV wd size v x).full := climb_full wd _ _ _ _ (NV.push_full h x)
theorem NV.push_get (v : NV) (x : Array Value) {p : Nat} (hp : p < v.n) : (v.push x).get p = v.get p := by
  show (if p < v.n + 1 then ((if p = v.n then some x else v.node p)).getD zeroHash else zeroHash) = if p < v.n then (v.node p).getD zeroHash else zeroHash
  rw [if_pos (by omega), if_neg (by omega), if_pos hp]
theorem climb_get (wd : Int) : ∀ (k h : Nat) (v : NV) (x : Array Value) (p : Nat), p < v.n → (climb wd k h v x).get p = v.get p
  | 0, _, _, _, _, _ => rfl
  | k + 1, h, v, x, p, hp => (climb_get wd k (h + 1) _ _ p (Nat.lt_succ_of_lt hp)).trans (NV.push_get v _ hp)
theorem app_get (wd : Int) (size : Nat) (v : NV) (x : Array Value) {p : Nat} (hp : p < v.n) : (appV wd size v x).get p = v.get p := (climb_get wd _ _ _ _ p (Nat.lt_succ_of_lt hp)).trans (NV.push_get v _ hp)
/-- A tree of which all nodes live. -/
structure TFull (t : TS) : Prop where
  n : t.s.n = nodesN t.size
  full : t.s.view.full
  al : t.s.alive = t.s.n
theorem TFull.getE {t : TS} (h : TFull t) {p : Nat} (hp : p < t.s.n) : t.s.getE p = 0 := by
  unfold SS.getE
  have hf : (t.s.node p).isSome = true := h.full p hp
  rw [if_pos hp, if_pos hf]
theorem TFull.peaksE {t : TS} (h : TFull t) {n : Nat} (hn : n ≤ t.size) : ∀ p ∈ peaksN n, t.s.getE p = 0 := fun p hp =>
  h.getE (by rw [h.n]; exact Nat.lt_of_lt_of_le (peaks_lt n p hp) (nodes_mono hn))
theorem TFull.zero {t : TS} (h1 : t.size = 0) (h2 : t.s.n = 0) (h3 : t.s.cks = []) : TFull t :=
  ⟨by rw [h1, h2, nodes_zero], fun p hp => by have : p < t.s.n := hp; omega, by simp [SS.alive, h3, h2]⟩
theorem TFull.app {t t' : TS} {x : Array Value} (h : TFull t) (h1 : t'.size = t.size + 1) (h2 : t'.s.view = appV t.wd t.size t.s.view x) (h3 : t'.s.n = t.s.n + 1 + t1 t.size) (h4 : t'.s.alive = t.s.alive + 1 + t1 t.size) : TFull t' :=
  ⟨by rw [h3, h1, nodes_succ, h.n], by rw [h2]; exact app_full _ _ h.full x, by rw [h3, h4, h.al]⟩
/-- The root of n leaves, from the nodes that are there. -/
def rootAt (t : TS) (n : Nat) : Array Value := bagR t.wd n ((peaksN n).map t.s.getH)
theorem TFull.root {t : TS} (h : TFull t) : t.root = rootAt t t.size := by
  unfold TS.root rootAt PeaksOf
  rw [if_pos (h.peaksE (Nat.le_refl _))]
theorem rootAt_app {t t' : TS} {x : Array Value} (h : TFull t) (h0 : t'.wd = t.wd) (h2 : t'.s.view = appV t.wd t.size t.s.view x) {n : Nat} (hn : n ≤ t.size) : rootAt t' n = rootAt t n := by
  unfold rootAt
  rw [h0]
  congr 1
  apply List.map_congr_left
  intro p hp
  have hlt : p < t.s.view.n := by show p < t.s.n; rw [h.n]; exact Nat.lt_of_lt_of_le (peaks_lt n p hp) (nodes_mono hn)
  rw [← view_get, h2, app_get _ _ _ _ hlt, view_get]
theorem bagE_peaks {t : TS} {n : Nat} (hn : n ≤ 4611686018427387904) : bagE n ((peaksN n).map t.s.getH) = 0 := by
  unfold bagE
  rw [if_pos]
  rw [List.length_map]
  exact peaks_length n (by have : (2 : Nat) ^ 63 = 9223372036854775808 := by decide
                           omega)
theorem TFull.old {w w' : World} {t : TS} {n : Nat} {e : Ending} (h : TFull t) (hn : n ≤ t.size) (hs : t.size ≤ 4611686018427387904) (ho : OldP w t n e w') : Res w [] (.tuple #[.agg (rootAt t n), .int .i64 0]) e w' := by
  rcases ho with ⟨_, hr⟩ | ⟨i, hi, _, h2, _⟩
  · rw [bagE_peaks (by omega)] at hr
    exact hr
  · exact absurd (h.peaksE hn _ (List.getElem_mem hi)) h2
theorem rootAt_is {w : World} {b : Nat} {t : TS} (ht : TrIs w b t) (n : Nat) : IsHash (rootAt t n) := bagR_is _ _ (fun x hx => by
  obtain ⟨p, _, rfl⟩ := List.mem_map.1 hx
  exact IsHash.getH ht.st p)

/-- The roots of all sizes so far. -/
structure OldI (w wr : World) (b k : Nat) (t : TS) (v : Value) (rs : List (Array Value)) : Prop where
  tr : TrIs wr b t
  full : TFull t
  size : t.size = k
  low : ∀ x ∈ t.foot b, w.heap.size ≤ x
  own : HOwn wr w.heap.size v rs
  apart : ∀ x ∈ ob v, x ∉ t.foot b
  len : rs.length = k + 1
  at_ : ∀ n (h : n < rs.length), rs[n] = rootAt t n
  chg : Chg [] w wr
theorem OldI.app {w wr W w2 : World} {b k : Nat} {t : TS} {v : Value} {rs : List (Array Value)} {x : Array Value} {e : Ending} (h : OldI w wr b k t v rs) (hW : Chg [] wr W) (ha : AppP W b t x e w2) :
    e = .returned (.int .u64 k) ∧ ∃ t', TrIs w2 b t' ∧ TFull t' ∧ t'.size = k + 1 ∧ (∀ x ∈ t'.foot b, w.heap.size ≤ x) ∧ HOwn w2 w.heap.size v rs ∧ (∀ x ∈ ob v, x ∉ t'.foot b) ∧ (∀ n (hn : n < rs.length), rs[n] = rootAt t' n) ∧ Chg [] w w2 := by
  obtain ⟨he, t', h1, h2, h3, h4, h5, h6, h7, h8, h9, h10, h11⟩ := ha
  have hs := hW.size
  have hsz := h.chg.size
  have hol := own_lt h.own.1
  refine ⟨by rw [he, h.size], t', h1, h.full.app h4 h5 h6 h7, by rw [h4, h.size], ?_, (h.own.chg hW (by simp)).chg h10 h.apart, ?_, ?_, (h.chg.nil_trans hW).trans h10 (fun k hk => .inr (h.low k hk))⟩
  · intro y hy
    rcases h11 y hy with q | q
    · exact h.low y q
    · omega
  · intro y hy hf
    rcases h11 y hf with q | q
    · exact h.apart y hy q
    · have := (hol y hy).2; omega
  · intro n hn
    rw [h.at_ n hn, rootAt_app h.full h3 h5 (by have := h.len; rw [h.size]; omega)]
theorem OldI.push {w w4 w5 w6 : World} {b k : Nat} {t' : TS} {v v6 : Value} {rs : List (Array Value)} (k1 : TrIs w4 b t') (k2 : TFull t') (k3 : t'.size = k + 1) (k4 : ∀ x ∈ t'.foot b, w.heap.size ≤ x) (k5 : HOwn w4 w.heap.size v rs) (k6 : ∀ x ∈ ob v, x ∉ t'.foot b)
    (k7 : ∀ n (hn : n < rs.length), rs[n] = rootAt t' n) (k8 : Chg [] w w4) (hc5 : Chg [] w4 w5) (h6 : HOwn w6 w.heap.size v6 (rs ++ [rootAt t' (k + 1)])) (hc6 : Chg (ob v) w5 w6) (hob : ∀ x ∈ ob v6, x ∈ ob v ∨ w5.heap.size ≤ x) (hl : rs.length = k + 1) :
    OldI w w6 b (k + 1) t' v6 (rs ++ [rootAt t' (k + 1)]) := by
  refine ⟨(k1.chg0 hc5).chg hc6 (fun x hx hm => k6 x hm hx), k2, k3, k4, h6, ?_, by simp [hl], ?_, (k8.nil_trans hc5).trans hc6 (fun x hx => .inr (own_lt k5.1 x hx).1)⟩
  · intro x hx hf
    rcases hob x hx with q | q
    · exact k6 x q hf
    · have := k1.lt x hf
      have := hc5.size
      omega
  · intro n hn
    rw [List.getElem_append]
    split
    · exact k7 n _
    · have : n = k + 1 := by simp at hn; omega
      subst this
      simp
end Go.Proofs.YtnodjlgihhinpaaDoor

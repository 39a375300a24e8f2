/- Texts put into one by pack.py: LwA LwB LwC LwIn MpC R3N. -/
import Derived.Test.YtpklkefnmoaaaaaGreatDoorTrBp
import Derived.Test.YtpklkefnmoaaaaaGreatDoorPkG
import Derived.Test.YtpklkefnmoaaaaaGreatDoorPkD
/- Trees of which all nodes live: what stays behind an append. -/
namespace Go.Proofs.YtpklkefnmoaaaaaGreatDoor
open Go.RowKit
set_option linter.unusedVariables false
set_option linter.unusedSimpArgs false

/-- A view of which all nodes live. -/
def NV.full (v : NV) : Prop := ∀ p, p < v.n → (v.node p).isSome = true
theorem NV.push_full {v : NV} (h : v.full) (x : Array Value) : (v.push x).full := by
  intro p hp
  show (if p = v.n then some x else v.node p).isSome = true
  by_cases e : p = v.n
  · rw [if_pos e]; rfl
  · rw [if_neg e]
    exact h p (by have : p < v.n + 1 := hp; omega)
theorem climb_full (wd : Int) : ∀ (k h : Nat) (v : NV) (x : Array Value), v.full → (climb wd k h v x).full
  | 0, _, _, _, hv => hv
  | k + 1, h, v, x, hv => climb_full wd k (h + 1) _ _ (NV.push_full hv _)
theorem app_full (wd : Int) (size : Nat) {v : NV} (h : v.full) (x : Array Value) : (appV wd size v x).full := climb_full wd _ _ _ _ (NV.push_full h x)
theorem NV.push_get (v : NV) (x : Array Value) {p : Nat} (hp : p < v.n) : (v.push x).get p = v.get p := by
  show (if p < v.n + 1 then ((if p = v.n then some x else v.node p)).getD zeroHash else zeroHash) = if p < v.n then (v.node p).getD zeroHash else zeroHash
  rw [if_pos (by omega), if_neg (by omega), if_pos hp]
theorem climb_get (wd : Int) : ∀ (k h : Nat) (v : NV) (x : Array Value) (p : Nat), p < v.n → (climb wd k h v x).get p = v.get p
  | 0, _, _, _, _, _ => rfl
  | k + 1, h, v, x, p, hp => (climb_get wd k (h + 1) _ _ p (Nat.lt_succ_of_lt hp)).trans (NV.push_get v _ hp)
theorem app_get (wd : Int) (size : Nat) (v : NV) (x : Array Value) {p : Nat} (hp : p < v.n) : (appV wd size v x).get p = v.get p := (climb_get wd _ _ _ _ p (Nat.lt_succ_of_lt hp)).trans (NV.push_get v _ hp)
/-- A tree of which all nodes live. -/
structure TFull (t : TS) : Prop where
  n : t.s.n = nodesN t.size
  full : t.s.view.full
  al : t.s.alive = t.s.n
theorem TFull.getE {t : TS} (h : TFull t) {p : Nat} (hp : p < t.s.n) : t.s.getE p = 0 := by
  unfold SS.getE
  have hf : (t.s.node p).isSome = true := h.full p hp
  rw [if_pos hp, if_pos hf]
theorem TFull.peaksE {t : TS} (h : TFull t) {n : Nat} (hn : n ≤ t.size) : ∀ p ∈ peaksN n, t.s.getE p = 0 := fun p hp =>
  h.getE (by rw [h.n]; exact Nat.lt_of_lt_of_le (peaks_lt n p hp) (nodes_mono hn))
theorem TFull.zero {t : TS} (h1 : t.size = 0) (h2 : t.s.n = 0) (h3 : t.s.cks = []) : TFull t :=
  ⟨by rw [h1, h2, nodes_zero], fun p hp => by have : p < t.s.n := hp; omega, by simp [SS.alive, h3, h2]⟩
theorem TFull.app {t t' : TS} {x : Array Value} (h : TFull t) (h1 : t'.size = t.size + 1) (h2 : t'.s.view = appV t.wd t.size t.s.view x) (h3 : t'.s.n = t.s.n + 1 + t1 t.size) (h4 : t'.s.alive = t.s.alive + 1 + t1 t.size) : TFull t' :=
  ⟨by rw [h3, h1, nodes_succ, h.n], by rw [h2]; exact app_full _ _ h.full x, by rw [h3, h4, h.al]⟩
/-- The root of n leaves, from the nodes that are there. -/
def rootAt (t : TS) (n : Nat) : Array Value := bagR t.wd n ((peaksN n).map t.s.getH)
theorem TFull.root {t : TS} (h : TFull t) : t.root = rootAt t t.size := by
  unfold TS.root rootAt PeaksOf
  rw [if_pos (h.peaksE (Nat.le_refl _))]
theorem rootAt_app {t t' : TS} {x : Array Value} (h : TFull t) (h0 : t'.wd = t.wd) (h2 : t'.s.view = appV t.wd t.size t.s.view x) {n : Nat} (hn : n ≤ t.size) : rootAt t' n = rootAt t n := by
  unfold rootAt
  rw [h0]
  congr 1
  apply List.map_congr_left
  intro p hp
  have hlt : p < t.s.view.n := by show p < t.s.n; rw [h.n]; exact Nat.lt_of_lt_of_le (peaks_lt n p hp) (nodes_mono hn)
  rw [← view_get, h2, app_get _ _ _ _ hlt, view_get]
theorem bagE_peaks {t : TS} {n : Nat} (hn : n ≤ 4611686018427387904) : bagE n ((peaksN n).map t.s.getH) = 0 := by
  unfold bagE
  rw [if_pos]
  rw [List.length_map]
  exact peaks_length n (by have : (2 : Nat) ^ 63 = 9223372036854775808 := by decide
                           omega)
theorem TFull.old {w w' : World} {t : TS} {n : Nat} {e : Ending} (h : TFull t) (hn : n ≤ t.size) (hs : t.size ≤ 4611686018427387904) (ho : OldP w t n e w') : Res w [] (.tuple #[.agg (rootAt t n), .int .i64 0]) e w' := by
  rcases ho with ⟨_, hr⟩ | ⟨i, hi, _, h2, _⟩
  · rw [bagE_peaks (by omega)] at hr
    exact hr
  · exact absurd (h.peaksE hn _ (List.getElem_mem hi)) h2
theorem rootAt_is {w : World} {b : Nat} {t : TS} (ht : TrIs w b t) (n : Nat) : IsHash (rootAt t n) := bagR_is _ _ (fun x hx => by
  obtain ⟨p, _, rfl⟩ := List.mem_map.1 hx
  exact IsHash.getH ht.st p)

/-- The roots of all sizes so far. -/
structure OldI (w wr : World) (b k : Nat) (t : TS) (v : Value) (rs : List (Array Value)) : Prop where
  tr : TrIs wr b t
  full : TFull t
  size : t.size = k
  low : ∀ x ∈ t.foot b, w.heap.size ≤ x
  own : HOwn wr w.heap.size v rs
  apart : ∀ x ∈ ob v, x ∉ t.foot b
  len : rs.length = k + 1
  at_ : ∀ n (h : n < rs.length), rs[n] = rootAt t n
  chg : Chg [] w wr
theorem OldI.app {w wr W w2 : World} {b k : Nat} {t : TS} {v : Value} {rs : List (Array Value)} {x : Array Value} {e : Ending} (h : OldI w wr b k t v rs) (hW : Chg [] wr W) (ha : AppP W b t x e w2) :
    e = .returned (.int .u64 k) ∧ ∃ t', TrIs w2 b t' ∧ TFull t' ∧ t'.size = k + 1 ∧ (∀ x ∈ t'.foot b, w.heap.size ≤ x) ∧ HOwn w2 w.heap.size v rs ∧ (∀ x ∈ ob v, x ∉ t'.foot b) ∧ (∀ n (hn : n < rs.length), rs[n] = rootAt t' n) ∧ Chg [] w w2 := by
  obtain ⟨he, t', h1, h2, h3, h4, h5, h6, h7, h8, h9, h10, h11⟩ := ha
  have hs := hW.size
  have hsz := h.chg.size
  have hol := own_lt h.own.1
  refine ⟨by rw [he, h.size], t', h1, h.full.app h4 h5 h6 h7, by rw [h4, h.size], ?_, (h.own.chg hW (by simp)).chg h10 h.apart, ?_, ?_, (h.chg.nil_trans hW).trans h10 (fun k hk => .inr (h.low k hk))⟩
  · intro y hy
    rcases h11 y hy with q | q
    · exact h.low y q
    · omega
  · intro y hy hf
    rcases h11 y hf with q | q
    · exact h.apart y hy q
    · have := (hol y hy).2; omega
  · intro n hn
    rw [h.at_ n hn, rootAt_app h.full h3 h5 (by have := h.len; rw [h.size]; omega)]
theorem OldI.push {w w4 w5 w6 : World} {b k : Nat} {t' : TS} {v v6 : Value} {rs : List (Array Value)} (k1 : TrIs w4 b t') (k2 : TFull t') (k3 : t'.size = k + 1) (k4 : ∀ x ∈ t'.foot b, w.heap.size ≤ x) (k5 : HOwn w4 w.heap.size v rs) (k6 : ∀ x ∈ ob v, x ∉ t'.foot b)
    (k7 : ∀ n (hn : n < rs.length), rs[n] = rootAt t' n) (k8 : Chg [] w w4) (hc5 : Chg [] w4 w5) (h6 : HOwn w6 w.heap.size v6 (rs ++ [rootAt t' (k + 1)])) (hc6 : Chg (ob v) w5 w6) (hob : ∀ x ∈ ob v6, x ∈ ob v ∨ w5.heap.size ≤ x) (hl : rs.length = k + 1) :
    OldI w w6 b (k + 1) t' v6 (rs ++ [rootAt t' (k + 1)]) := by
  refine ⟨(k1.chg0 hc5).chg hc6 (fun x hx hm => k6 x hm hx), k2, k3, k4, h6, ?_, by simp [hl], ?_, (k8.nil_trans hc5).trans hc6 (fun x hx => .inr (own_lt k5.1 x hx).1)⟩
  · intro x hx hf
    rcases hob x hx with q | q
    · exact k6 x q hf
    · have := k1.lt x hf
      have := hc5.size
      omega
  · intro n hn
    rw [List.getElem_append]
    split
    · exact k7 n _
    · have : n = k + 1 := by simp at hn; omega
      subst this
      simp
end Go.Proofs.YtpklkefnmoaaaaaGreatDoor

/- The tree of given leaves, plainly: its nodes, and what each is made of. -/
namespace Go.Proofs.YtpklkefnmoaaaaaGreatDoor
open Go.RowKit
set_option linter.unusedVariables false
set_option linter.unusedSimpArgs false

def NV.zero : NV := ⟨0, fun _ => none⟩
def treeGo (wd : Int) : Nat → NV → List (Array Value) → NV
  | _, v, [] => v
  | k, v, x :: l => treeGo wd (k + 1) (appV wd k v x) l
def treeV (wd : Int) (l : List (Array Value)) : NV := treeGo wd 0 NV.zero l
theorem treeGo_snoc (wd : Int) : ∀ (l : List (Array Value)) (k : Nat) (v : NV) (x : Array Value), treeGo wd k v (l ++ [x]) = appV wd (k + l.length) (treeGo wd k v l) x
  | [], k, v, x => rfl
  | y :: l, k, v, x => by
    rw [List.cons_append, treeGo, treeGo_snoc wd l, treeGo, List.length_cons, show k + 1 + l.length = k + (l.length + 1) from by omega]
theorem treeGo_app (wd : Int) : ∀ (a b : List (Array Value)) (k : Nat) (v : NV), treeGo wd k v (a ++ b) = treeGo wd (k + a.length) (treeGo wd k v a) b
  | [], b, k, v => rfl
  | y :: a, b, k, v => by
    rw [List.cons_append, treeGo, treeGo_app wd a, treeGo, List.length_cons, show k + 1 + a.length = k + (a.length + 1) from by omega]
theorem treeV_snoc (wd : Int) (l : List (Array Value)) (x : Array Value) : treeV wd (l ++ [x]) = appV wd l.length (treeV wd l) x := by
  unfold treeV
  rw [treeGo_snoc, Nat.zero_add]
theorem treeV_app (wd : Int) (a b : List (Array Value)) : treeV wd (a ++ b) = treeGo wd a.length (treeV wd a) b := by
  unfold treeV
  rw [treeGo_app, Nat.zero_add]
theorem climb_n (wd : Int) : ∀ (k h : Nat) (v : NV) (x : Array Value), (climb wd k h v x).n = v.n + k
  | 0, _, _, _ => rfl
  | k + 1, h, v, x => by
    rw [climb, climb_n wd k]
    show v.n + 1 + k = v.n + (k + 1)
    omega
theorem app_n (wd : Int) (size : Nat) (v : NV) (x : Array Value) : (appV wd size v x).n = v.n + 1 + t1 size := climb_n wd _ _ _ _
theorem NV.push_last (v : NV) (x : Array Value) : (v.push x).get v.n = x := by
  show (if v.n < v.n + 1 then ((if v.n = v.n then some x else v.node v.n)).getD zeroHash else zeroHash) = x
  rw [if_pos (by omega), if_pos rfl]
  rfl
theorem climb_law (wd : Int) : ∀ (k h : Nat) (v : NV) (x : Array Value), 1 ≤ v.n → v.get (v.n - 1) = x → ∀ j, j < k →
    (climb wd k h v x).get (v.n + j) = nodeA wd ((climb wd k h v x).get (v.n + j - 2 ^ (h + 1 + j))) ((climb wd k h v x).get (v.n + j - 1))
  | 0, _, _, _, _, _, j, hj => by omega
  | k + 1, h, v, x, hn, hx, j, hj => by
    rw [climb]
    have hp := Nat.two_pow_pos (h + 1)
    have e1 : v.n - 1 - (2 ^ (h + 1) - 1) = v.n - 2 ^ (h + 1) := by omega
    rw [e1]
    generalize hy : nodeA wd (v.get (v.n - 2 ^ (h + 1))) x = y
    have hvn : (v.push y).n = v.n + 1 := rfl
    cases j with
    | zero =>
      simp only [Nat.add_zero]
      rw [climb_get wd k (h + 1) (v.push y) y v.n (by rw [hvn]; omega), NV.push_last, climb_get wd k (h + 1) (v.push y) y _ (by rw [hvn]; omega), NV.push_get v y (by omega),
        climb_get wd k (h + 1) (v.push y) y _ (by rw [hvn]; omega), NV.push_get v y (by omega), hx, hy]
    | succ j =>
      have := climb_law wd k (h + 1) (v.push y) y (by rw [hvn]; omega) (by rw [hvn, Nat.add_sub_cancel, NV.push_last]) j (by omega)
      rw [hvn] at this
      rw [show v.n + (j + 1) = v.n + 1 + j from by omega, show h + 1 + (j + 1) = h + 1 + 1 + j from by omega]
      exact this
/-- Nodes over these leaves. -/
structure Forest (wd : Int) (ls : List (Array Value)) (v : NV) : Prop where
  n : v.n = nodesN ls.length
  full : v.full
  leaf : ∀ i (h : i < ls.length), v.get (nodesN i) = ls[i]
  node : ∀ i, i < ls.length → ∀ r, r < t1 i → v.get (nodesN i + 1 + r) = nodeA wd (v.get (nodesN i + 1 + r - 2 ^ (r + 1))) (v.get (nodesN i + r))
theorem Forest.zero (wd : Int) : Forest wd [] NV.zero :=
  ⟨by rw [List.length_nil, nodes_zero]; rfl, fun p hp => by simp [NV.zero] at hp, fun i h => by simp at h, fun i h => by simp at h⟩
theorem Forest.app {wd : Int} {ls : List (Array Value)} {v : NV} (h : Forest wd ls v) (x : Array Value) : Forest wd (ls ++ [x]) (appV wd ls.length v x) := by
  have hl : (ls ++ [x]).length = ls.length + 1 := by simp
  have hsub : ∀ i, i < ls.length → nodesN i + t1 i < v.n := by
    intro i hi
    have := nodes_succ i
    have := nodes_mono (show i + 1 ≤ ls.length from hi)
    rw [h.n]; omega
  refine ⟨by rw [app_n, hl, nodes_succ, h.n], app_full _ _ h.full x, ?_, ?_⟩
  · intro i hi
    rw [List.getElem_append]
    split
    · rename_i q
      have := hsub i q
      rw [app_get _ _ _ _ (by omega)]
      exact h.leaf i q
    · have e : i = ls.length := by omega
      subst e
      rw [← h.n]
      unfold appV
      rw [climb_get _ _ _ _ _ _ (show v.n < v.n + 1 from by omega), NV.push_last]
      simp
  · intro i hi r hr
    rw [hl] at hi
    by_cases q : i < ls.length
    · have := hsub i q
      have hp := Nat.two_pow_pos (r + 1)
      rw [app_get _ _ _ _ (by omega), app_get _ _ _ _ (by omega), app_get _ _ _ _ (by omega)]
      exact h.node i q r hr
    · have e : i = ls.length := by omega
      subst e
      have := climb_law wd (t1 ls.length) 0 (v.push x) x (show 1 ≤ v.n + 1 from by omega) (by rw [show (v.push x).n - 1 = v.n from rfl]; exact NV.push_last v x) r hr
      rw [show (v.push x).n = v.n + 1 from rfl, h.n, Nat.zero_add, show nodesN ls.length + 1 + r - 1 = nodesN ls.length + r from by omega, Nat.add_comm 1 r] at this
      exact this
theorem Forest.go {wd : Int} : ∀ (l pre : List (Array Value)) (v : NV), Forest wd pre v → Forest wd (pre ++ l) (treeGo wd pre.length v l)
  | [], pre, v, h => by rw [List.append_nil]; exact h
  | x :: l, pre, v, h => by
    have := Forest.go l (pre ++ [x]) _ (h.app x)
    rw [List.append_assoc, List.singleton_append, List.length_append, List.length_singleton] at this
    exact this
theorem forest (wd : Int) (ls : List (Array Value)) : Forest wd ls (treeV wd ls) := Forest.go ls [] NV.zero (Forest.zero wd)
/-- Each place is a leaf's or stands over one. -/
theorem place_of : ∀ (n p : Nat), p < nodesN n → ∃ i, i < n ∧ ∃ r, r ≤ t1 i ∧ p = nodesN i + r
  | 0, p, h => by rw [nodes_zero] at h; omega
  | n + 1, p, h => by
    by_cases q : p < nodesN n
    · obtain ⟨i, hi, r⟩ := place_of n p q
      exact ⟨i, by omega, r⟩
    · rw [nodes_succ] at h
      exact ⟨n, by omega, p - nodesN n, by omega, by omega⟩
theorem treeGo_get (wd : Int) : ∀ (l : List (Array Value)) (k : Nat) (v : NV) {p : Nat}, p < v.n → (treeGo wd k v l).get p = v.get p
  | [], _, _, _, _ => rfl
  | x :: l, k, v, p, hp => by
    rw [treeGo, treeGo_get wd l _ _ (by rw [app_n]; omega), app_get _ _ _ _ hp]

/-! Two views with the same nodes. -/
def NV.same (u v : NV) : Prop := u.n = v.n ∧ ∀ p, u.get p = v.get p
theorem NV.same_push {u v : NV} (h : u.same v) (x : Array Value) : (u.push x).same (v.push x) := by
  refine ⟨by show u.n + 1 = v.n + 1; rw [h.1], fun p => ?_⟩
  by_cases q : p < v.n
  · rw [NV.push_get u x (by rw [h.1]; exact q), NV.push_get v x q, h.2]
  · by_cases e : p = v.n
    · subst e
      rw [NV.push_last, ← h.1, NV.push_last]
    · show (if p < u.n + 1 then _ else zeroHash) = (if p < v.n + 1 then _ else zeroHash)
      rw [h.1, if_neg (by omega), if_neg (by omega)]
theorem climb_same (wd : Int) : ∀ (k h : Nat) (u v : NV) (x : Array Value), u.same v → (climb wd k h u x).same (climb wd k h v x)
  | 0, _, _, _, _, hs => hs
  | k + 1, h, u, v, x, hs => by
    rw [climb, climb, hs.1, hs.2]
    exact climb_same wd k (h + 1) _ _ _ (NV.same_push hs _)
theorem app_same (wd : Int) (size : Nat) {u v : NV} (h : u.same v) (x : Array Value) : (appV wd size u x).same (appV wd size v x) := climb_same wd _ _ _ _ _ (NV.same_push h x)
/-- Nodes pushed one behind the other. -/
def NV.pushes (v : NV) (l : List (Array Value)) : NV := l.foldl NV.push v
theorem NV.pushes_n (l : List (Array Value)) : ∀ v : NV, (v.pushes l).n = v.n + l.length := by
  induction l with
  | nil => intro v; rfl
  | cons x l ih =>
    intro v
    show ((v.push x).pushes l).n = _
    rw [ih]
    show v.n + 1 + l.length = _
    rw [List.length_cons]
    omega
theorem NV.pushes_low (l : List (Array Value)) : ∀ (v : NV) {p : Nat}, p < v.n → (v.pushes l).get p = v.get p := by
  induction l with
  | nil => intro v p hp; rfl
  | cons x l ih =>
    intro v p hp
    show ((v.push x).pushes l).get p = _
    rw [ih _ (show p < v.n + 1 from by omega), NV.push_get v x hp]
theorem NV.pushes_at (l : List (Array Value)) : ∀ (v : NV) (i : Nat) (h : i < l.length), (v.pushes l).get (v.n + i) = l[i] := by
  induction l with
  | nil => intro v i h; simp at h
  | cons x l ih =>
    intro v i h
    show ((v.push x).pushes l).get _ = _
    cases i with
    | zero =>
      rw [Nat.add_zero, NV.pushes_low l _ (show v.n < v.n + 1 from by omega), NV.push_last]
      rfl
    | succ i =>
      have := ih (v.push x) i (by simpa using h)
      rw [show (v.push x).n + i = v.n + (i + 1) from by show v.n + 1 + i = _; omega] at this
      rw [this]
      rfl
theorem NV.pushes_full (l : List (Array Value)) : ∀ v : NV, v.full → (v.pushes l).full := by
  induction l with
  | nil => intro v h; exact h
  | cons x l ih => intro v h; exact ih _ (NV.push_full h x)
theorem NV.pushes_snoc (v : NV) (l : List (Array Value)) (x : Array Value) : v.pushes (l ++ [x]) = (v.pushes l).push x := by
  unfold NV.pushes
  rw [List.foldl_append]
  rfl
/-- Nodes that more leaves made, pushed onto the elder tree: the same nodes. -/
theorem install_same (wd : Int) (ls more ns : List (Array Value)) (hl : ns.length = nodesN (ls.length + more.length) - nodesN ls.length) (hg : ∀ i (h : i < ns.length), ns[i] = (treeV wd (ls ++ more)).get (nodesN ls.length + i)) :
    ((treeV wd ls).pushes ns).same (treeV wd (ls ++ more)) := by
  have h1 := forest wd ls
  have h2 := forest wd (ls ++ more)
  have hm := nodes_mono (show ls.length ≤ ls.length + more.length from by omega)
  have hn1 := h1.n
  have hn2 := h2.n
  rw [List.length_append] at hn2
  have hn3 := NV.pushes_n ns (treeV wd ls)
  refine ⟨by omega, fun p => ?_⟩
  by_cases q : p < nodesN ls.length
  · rw [NV.pushes_low _ _ (by omega), treeV_app, treeGo_get _ _ _ _ (by omega)]
  · by_cases q2 : p < nodesN (ls.length + more.length)
    · have := NV.pushes_at ns (treeV wd ls) (p - nodesN ls.length) (by omega)
      rw [show (treeV wd ls).n + (p - nodesN ls.length) = p from by omega] at this
      rw [this, hg, show nodesN ls.length + (p - nodesN ls.length) = p from by omega]
    · show (if p < _ then _ else zeroHash) = (if p < _ then _ else zeroHash)
      rw [if_neg (by omega), if_neg (by omega)]
/-! The width as it counts. -/
theorem widthI_fit (w : Int) : 1 ≤ widthI w ∧ widthI w ≤ 32 := by unfold widthI; omega
theorem widthI_idem (w : Int) : widthI (widthI w) = widthI w := by unfold widthI; omega
theorem widthN_I (w : Int) : widthN (widthI w) = widthN w := by unfold widthN widthI; omega
theorem compress_width {a b : Int} (h : widthN a = widthN b) (st blk : List Nat) : compressN a st blk = compressN b st blk := by
  unfold compressN cutN
  rw [h]
theorem absorb_width {a b : Int} (h : widthN a = widthN b) (s : HS) (c : Nat) : absorb a s c = absorb b s c := by
  unfold absorb
  simp only [compress_width h]
theorem absorbs_width {a b : Int} (h : widthN a = widthN b) (l : List Nat) : ∀ s, absorbs a s l = absorbs b s l := by
  intro s
  unfold absorbs
  congr 1
  funext s c
  exact absorb_width h s c
theorem sum_width {a b : Int} (h : widthN a = widthN b) (l : List Nat) : sumN a l = sumN b l := by
  have e : startN a = startN b := by unfold startN cutN; rw [h]
  unfold sumN
  rw [absorbs_width h, absorbs_width h, e]
theorem nodeA_width (w : Int) (x y : Array Value) : nodeA (widthI w) x y = nodeA w x y := by unfold nodeA nodeN; rw [sum_width (widthN_I w)]
theorem foldA_width (w : Int) (x y : Array Value) : foldA (widthI w) x y = foldA w x y := by unfold foldA foldN; rw [sum_width (widthN_I w)]
theorem rootA_width (w : Int) (n : Nat) (x : Array Value) : rootA (widthI w) n x = rootA w n x := by unfold rootA rootN; rw [sum_width (widthN_I w)]
theorem accA_width (w : Int) : ∀ l, accA (widthI w) l = accA w l
  | [] => rfl
  | [x] => rfl
  | x :: y :: l => by rw [accA, accA, accA_width w (y :: l), foldA_width]
end Go.Proofs.YtpklkefnmoaaaaaGreatDoor

/- Trees of given leaves in memory. -/
namespace Go.Proofs.YtpklkefnmoaaaaaGreatDoor
open Go.RowKit
set_option linter.unusedVariables false
set_option linter.unusedSimpArgs false

structure TreeOf (w0 w : World) (b : Nat) (t : TS) (wd : Int) (ls : List (Array Value)) : Prop where
  tr : TrIs w b t
  wdE : t.wd = widthI wd
  size : t.size = ls.length
  view : t.s.view.same (treeV (widthI wd) ls)
  fl : t.s.view.full
  al : t.s.alive = nodesN ls.length
  low : ∀ k ∈ t.foot b, w0.heap.size ≤ k
  chg : Chg [] w0 w
theorem TreeOf.n {w0 w : World} {b : Nat} {t : TS} {wd : Int} {ls : List (Array Value)} (h : TreeOf w0 w b t wd ls) : t.s.n = nodesN ls.length := h.view.1.trans (forest (widthI wd) ls).n
theorem TreeOf.full {w0 w : World} {b : Nat} {t : TS} {wd : Int} {ls : List (Array Value)} (h : TreeOf w0 w b t wd ls) : TFull t := ⟨by rw [h.n, h.size], h.fl, by rw [h.al, h.n]⟩
theorem TreeOf.chgF {w0 w w' : World} {b : Nat} {t : TS} {wd : Int} {ls : List (Array Value)} {F : List Nat} (h : TreeOf w0 w b t wd ls) (hc : Chg F w w') (hF : ∀ k ∈ t.foot b, k ∉ F) (h0 : Chg [] w0 w') : TreeOf w0 w' b t wd ls :=
  ⟨h.tr.chg hc hF, h.wdE, h.size, h.view, h.fl, h.al, h.low, h0⟩
theorem TreeOf.chg0 {w0 w w' : World} {b : Nat} {t : TS} {wd : Int} {ls : List (Array Value)} (h : TreeOf w0 w b t wd ls) (hc : Chg [] w w') : TreeOf w0 w' b t wd ls := h.chgF hc (by simp) (h.chg.nil_trans hc)
theorem TreeOf.getH {w0 w : World} {b : Nat} {t : TS} {wd : Int} {ls : List (Array Value)} (h : TreeOf w0 w b t wd ls) (p : Nat) : t.s.getH p = (treeV (widthI wd) ls).get p := by rw [← view_get, h.view.2]
theorem SS.node_nil {s : SS} (h : s.cks = []) (p : Nat) : s.node p = none := by simp [SS.node, SS.look, h]
theorem TreeOf.zero {w0 w1 : World} {b : Nat} {t : TS} {wd : Int} (h1 : TrIs w1 b t) (h2 : Chg [] w0 w1) (h3 : ∀ k ∈ t.foot b, w0.heap.size ≤ k) (h4 : t.wd = widthI wd) (h5 : t.size = 0) (h6 : t.s.n = 0) (h7 : t.s.cks = []) : TreeOf w0 w1 b t wd [] := by
  refine ⟨h1, h4, h5, ⟨h6, fun p => ?_⟩, (TFull.zero h5 h6 h7).full, ?_, h3, h2⟩
  · show (if p < t.s.n then _ else zeroHash) = (if p < 0 then _ else zeroHash)
    rw [if_neg (by omega), if_neg (by omega)]
  · rw [List.length_nil, nodes_zero]
    simp [SS.alive, h7]
/-- One leaf appended. -/
def TreeApp (w0 w : World) (b : Nat) (t : TS) (wd : Int) (ls : List (Array Value)) (x : Array Value) (e : Ending) (w2 : World) : Prop :=
  e = .returned (.int .u64 ls.length) ∧ ∃ t', TreeOf w0 w2 b t' wd (ls ++ [x]) ∧ Chg (t.foot b) w w2 ∧ (∀ k ∈ t'.foot b, k ∈ t.foot b ∨ w.heap.size ≤ k)
theorem TreeOf.app {w0 w w2 : World} {b : Nat} {t : TS} {wd : Int} {ls : List (Array Value)} {x : Array Value} {e : Ending} (h : TreeOf w0 w b t wd ls) (ha : AppP w b t x e w2) : TreeApp w0 w b t wd ls x e w2 := by
  obtain ⟨he, t', h1, h2, h3, h4, h5, h6, h7, h8, h9, h10, h11⟩ := ha
  have hs := h.chg.size
  refine ⟨by rw [he, h.size], t', ⟨h1, h3.trans h.wdE, by rw [h4, h.size, List.length_append]; rfl, ?_, ?_, ?_, ?_, h.chg.trans h10 (fun k hk => .inr (h.low k hk))⟩, h10, h11⟩
  · rw [h5, treeV_snoc, h.wdE, h.size]
    exact app_same _ _ h.view x
  · rw [h5]
    exact app_full _ _ h.fl x
  · rw [h7, h.al, List.length_append, List.length_singleton, nodes_succ, h.size]
  · intro k hk
    rcases h11 k hk with q | q
    · exact h.low k q
    · omega
theorem TreeOf.call {w0 w : World} {b : Nat} {t : TS} {wd : Int} {ls : List (Array Value)} (h : TreeOf w0 w b t wd ls) {x : Array Value} (hx : IsHash x) (hk : HIs w) (hl : ls.length ≤ 1000000) :
    Calls Tryz.prog 21 #[.pointer (some ⟨b, 0, none⟩), .agg x] w (TreeApp w0 w b t wd ls x) := by
  have hn := nodes_le ls.length
  have hz := h.size
  have ha := h.al
  exact (append_calls w b t x h.tr hx hk (by omega) (by rw [hz]; exact h.n) (by omega)).mono fun e w2 hp => h.app hp
/-- The root over these leaves. -/
def rootL (wd : Int) (ls : List (Array Value)) : Array Value := bagR (widthI wd) ls.length ((peaksN ls.length).map (treeV (widthI wd) ls).get)
theorem TreeOf.root {w0 w : World} {b : Nat} {t : TS} {wd : Int} {ls : List (Array Value)} (h : TreeOf w0 w b t wd ls) : t.root = rootL wd ls := by
  rw [h.full.root]
  unfold rootAt rootL
  rw [h.wdE, h.size]
  congr 1
  apply List.map_congr_left
  intro p _
  exact h.getH p
theorem treeV_is (wd : Int) (ls : List (Array Value)) {w0 w : World} {b : Nat} {t : TS} (h : TreeOf w0 w b t wd ls) (p : Nat) : IsHash ((treeV (widthI wd) ls).get p) := by
  rw [← h.getH]
  exact IsHash.getH h.tr.st p
theorem TreeOf.rootIs {w0 w : World} {b : Nat} {t : TS} {wd : Int} {ls : List (Array Value)} (h : TreeOf w0 w b t wd ls) : IsHash (rootL wd ls) := by
  rw [← h.root, h.full.root]
  exact rootAt_is h.tr _
theorem TreeOf.rootCall {w0 w : World} {b : Nat} {t : TS} {wd : Int} {ls : List (Array Value)} (h : TreeOf w0 w b t wd ls) (hk : HIs w) (hl : ls.length ≤ 1000000) :
    Calls Tryz.prog 35 #[.pointer (some ⟨b, 0, none⟩)] w (Res w [] (.agg (rootL wd ls))) := by
  have := tRoot_calls w b t h.tr (by rw [h.size]; omega) hk
  rwa [h.root] at this
theorem TreeOf.nodeCall {w0 w : World} {b : Nat} {t : TS} {wd : Int} {ls : List (Array Value)} (h : TreeOf w0 w b t wd ls) (p : Nat) (hp : p < nodesN ls.length) (hl : ls.length ≤ 1000000) :
    Calls Tryz.prog 50 #[.pointer (some ⟨b, 0, none⟩), .int .u64 p] w (Res w [] (.tuple #[.agg ((treeV (widthI wd) ls).get p), .int .i64 0])) := by
  have hn := nodes_le ls.length
  have := tNode_calls w b p t h.tr (by omega)
  rwa [h.getH, h.full.getE (by rw [h.n]; exact hp)] at this
theorem TreeOf.nodeFar {w0 w : World} {b : Nat} {t : TS} {wd : Int} {ls : List (Array Value)} (h : TreeOf w0 w b t wd ls) (p : Nat) (hp : nodesN ls.length ≤ p) (hl : p < 18446744073709551616) :
    Calls Tryz.prog 50 #[.pointer (some ⟨b, 0, none⟩), .int .u64 p] w (Res w [] (.tuple #[.agg zeroHash, .int .i64 31])) := by
  have := tNode_calls w b p t h.tr hl
  have hn := h.n
  have e1 : t.s.getH p = zeroHash := by unfold SS.getH; rw [if_neg (by omega)]
  have e2 : t.s.getE p = 31 := by unfold SS.getE; rw [if_neg (by omega)]
  rwa [e1, e2] at this
/-- The peaks over these leaves. -/
def peaksV (wd : Int) (ls : List (Array Value)) : List (Array Value) := (peaksN ls.length).map (treeV (widthI wd) ls).get
theorem TreeOf.peaksCall {w0 w : World} {b : Nat} {t : TS} {wd : Int} {ls : List (Array Value)} (h : TreeOf w0 w b t wd ls) (hl : ls.length ≤ 1000000) :
    Calls Tryz.prog 48 #[.pointer (some ⟨b, 0, none⟩)] w fun e w' => ∃ v, e = .returned v ∧ HOwn w' w.heap.size v (peaksV wd ls) ∧ Chg [] w w' := by
  have hpk := tPeaks_calls w b t h.tr (by rw [h.size]; omega)
  have e : PeaksOf t.s (peaksN t.size) = peaksV wd ls := by
    unfold PeaksOf peaksV
    rw [if_pos (h.full.peaksE (Nat.le_refl _)), h.size]
    apply List.map_congr_left
    intro p _
    exact h.getH p
  rwa [e] at hpk
end Go.Proofs.YtpklkefnmoaaaaaGreatDoor

/- Install walked. -/
namespace Go.Proofs.YtpklkefnmoaaaaaGreatDoor
open Go.RowKit
set_option linter.unusedVariables false
set_option linter.unusedSimpArgs false

structure InsI (w wr : World) (b : Nat) (t : TS) (s' : SS) (ns : List (Array Value)) (i : Nat) : Prop where
  tr : TrIs wr b { t with s := s' }
  view : s'.view = t.s.view.pushes (ns.take i)
  n : s'.n = t.s.n + i
  al : s'.alive = t.s.alive + i
  log : s'.log = t.s.log
  pins : s'.pins = t.s.pins
  chg : Chg (t.foot b) w wr
  new : ∀ k ∈ s'.foot t.sb, k ∈ t.foot b ∨ w.heap.size ≤ k
theorem InsI.zero {w : World} {b : Nat} {t : TS} (ns : List (Array Value)) (h : TrIs w b t) : InsI w w b t t.s ns 0 :=
  ⟨h, by rw [List.take_zero]; rfl, rfl, rfl, rfl, rfl, Chg.refl _ _, fun k hk => .inl (by simp [TS.foot, hk])⟩
theorem InsI.next {w wr W w' : World} {b : Nat} {t : TS} {s' : SS} {ns : List (Array Value)} {i : Nat} {e : Ending} (h : InsI w wr b t s' ns i) (hi : i < ns.length) (hW : Chg [] wr W) (hp : PushP W t.sb s' ns[i] e w') :
    e = .returned (.int .u64 s'.n) ∧ ∃ s2, InsI w w' b t s2 ns (i + 1) := by
  obtain ⟨he, s2, h1, h2, h3, h4, h5, h6, h7, h8⟩ := push_tree (t := t) (h.tr.chg0 hW) hp
  have hs := hW.size
  have hc := h.chg.size
  refine ⟨he, s2, h1, ?_, by rw [h3, h.n]; omega, by rw [h4, h.al]; omega, h5.trans h.log, h6.trans h.pins, (h.chg.nil_trans hW).trans h7 (fun k hk => h.new k hk), fun k hk => ?_⟩
  · rw [h2, h.view, List.take_succ_eq_append_getElem hi, NV.pushes_snoc]
  · rcases h8 k hk with q | q
    · exact h.new k q
    · right; omega
def InsP (w : World) (b : Nat) (t : TS) (ns : List (Array Value)) (k : Nat) (e : Ending) (w' : World) : Prop :=
  e = .returned (.int .i64 0) ∧ ∃ t', TrIs w' b t' ∧ t'.sb = t.sb ∧ t'.wd = t.wd ∧ t'.size = t.size + k ∧ t'.s.view = t.s.view.pushes ns ∧ t'.s.alive = t.s.alive + ns.length ∧ t'.s.log = t.s.log ∧ t'.s.pins = t.s.pins ∧
    Chg (t.foot b) w w' ∧ (∀ x ∈ t'.foot b, x ∈ t.foot b ∨ w.heap.size ≤ x)
theorem InsI.last {w wr : World} {b k : Nat} {t : TS} {s' : SS} {ns : List (Array Value)} (h : InsI w wr b t s' ns ns.length) : InsP w b t ns k (.returned (.int .i64 0)) (wr.setCell ⟨b, 2, none⟩ (.int .u64 (t.size + k : Nat))) := by
  have hc : Chg [b] wr (wr.setCell ⟨b, 2, none⟩ (.int .u64 (t.size + k : Nat))) := (Chg.refl _ _).setCell (by simp) _
  refine ⟨rfl, ⟨s', t.sb, t.wd, t.size + k⟩, ⟨?_, h.tr.st.chg hc (fun k hk hm => ?_), h.tr.apart, h.tr.low, h.tr.wd⟩, rfl, rfl, rfl, ?_, h.al, h.log, h.pins, h.chg.trans hc (fun k hk => .inl (by simp at hk; simp [TS.foot, hk])), ?_⟩
  · have := blk_set h.tr.mem 2 (.int .u64 (t.size + k : Nat))
    rw [this]
    rfl
  · simp at hm; subst hm; exact h.tr.apart hk
  · have := h.view
    rw [List.take_length] at this
    exact this
  · intro x hx
    simp only [TS.foot, List.mem_cons] at hx
    rcases hx with rfl | hx
    · exact .inl (by simp [TS.foot])
    · exact h.new x hx
set_option maxRecDepth 100000 in
theorem install_count (w : World) (b : Nat) (t : TS) (a : Option Addr) (n cap k : Nat) (ht : TrIs w b t) (hsz : t.size + k ≤ 4611686018427387904) (hlen : n ≠ nodesN (t.size + k) - nodesN t.size) (hn : n ≤ 1099511627776) :
    Calls Tryz.prog 94 #[.pointer (some ⟨b, 0, none⟩), .slice a n cap, .int .u64 k] w (Res w [] (.int .i64 70)) := by
  have c2 := blk_cell ht.mem 2 rfl
  have hb := blk_lt ht.mem
  have h1 := fun W => Nodes_calls t.size (by omega) W
  have h2 := fun W => Nodes_calls (t.size + k) hsz W
  rw [show ((t.size + k : Nat) : Int) = (t.size : Int) + k from by omega] at h2
  have hm := nodes_mono (show t.size ≤ t.size + k from by omega)
  have hbd := nodes_le (t.size + k)
  have hne : ((n : Int) != ((nodesN (t.size + k) : Nat) : Int) - (nodesN t.size : Nat)) = true := by rw [bne_iff_ne]; omega
  have hts : t.size ≤ 4611686018427387904 := by omega
  have hkk : k ≤ 4611686018427387904 := by omega
  clear hlen
  generalize nodesN (t.size + k) = N2 at *
  generalize nodesN t.size = N1 at *
  clear ht
  go_enter Tryz.func94, Tryz.ntmps94
  go_wp2_with (first
    | (go_at_call 44; (with_reducible refine (h1 _).mono ?_); rintro e w1 ⟨rfl, hw1⟩; obtain rfl : w = w1 := hw1.symm)
    | (go_at_call 44; (with_reducible refine (h2 _).mono ?_); rintro e w1 ⟨rfl, hw1⟩; obtain rfl : w = w1 := hw1.symm))
  go_ret
  exact ⟨rfl, Chg.refl _ _⟩
set_option maxRecDepth 100000 in
set_option maxHeartbeats 4000000 in
theorem install_calls (w : World) (b : Nat) (t : TS) (a : Option Addr) (cap k : Nat) (ns : List (Array Value)) (ht : TrIs w b t) (hI : ∀ x ∈ ns, IsHash x) (hv : ∀ W, Chg (t.foot b) w W → HsIs W (.slice a ns.length cap) ns)
    (hsz : t.size + k ≤ 4611686018427387904) (hlen : ns.length = nodesN (t.size + k) - nodesN t.size) (hl : ns.length ≤ 1000000) (hn : t.s.n < 9223372036854775808) (ha : t.s.alive < 1000000000000) :
    Calls Tryz.prog 94 #[.pointer (some ⟨b, 0, none⟩), .slice a ns.length cap, .int .u64 k] w (InsP w b t ns k) := by
  have c2 := blk_cell ht.mem 2 rfl
  have hb := blk_lt ht.mem
  have h1 := fun W => Nodes_calls t.size (by omega) W
  have h2 := fun W => Nodes_calls (t.size + k) hsz W
  rw [show ((t.size + k : Nat) : Int) = (t.size : Int) + k from by omega] at h2
  have hm := nodes_mono (show t.size ≤ t.size + k from by omega)
  have hbd := nodes_le (t.size + k)
  have hne : ((ns.length : Int) != ((nodesN (t.size + k) : Nat) : Int) - (nodesN t.size : Nat)) = false := by rw [bne_eq_false_iff_eq]; omega
  have hts : t.size ≤ 4611686018427387904 := by omega
  have hkk : k ≤ 4611686018427387904 := by omega
  have hI0 := InsI.zero ns ht
  have HV := Lib.hid hv
  have HI := Lib.hid hI
  have HI0 := Lib.hid hI0
  clear hlen hv hI hI0
  generalize nodesN (t.size + k) = N2 at *
  generalize nodesN t.size = N1 at *
  clear ht
  go_enter Tryz.func94, Tryz.ntmps94
  go_wp2_with (first
    | (go_at_call 44; (with_reducible refine (h1 _).mono ?_); rintro e w1 ⟨rfl, hw1⟩; obtain rfl : w = w1 := hw1.symm)
    | (go_at_call 44; (with_reducible refine (h2 _).mono ?_); rintro e w1 ⟨rfl, hw1⟩; obtain rfl : w = w1 := hw1.symm))
  clear c2 hb h1 h2 hne hm hbd
  obtain ⟨w0, rfl⟩ : ∃ w0 : World, w0 = w := ⟨_, rfl⟩
  go_loopg [51] ns.length (fun g ii wx => ∃ (i : Nat) (s' : SS), i ≤ ns.length ∧ g = ns.length - i ∧ ii = .int .i64 i ∧ InsI w0 wx b t s' ns i)
  case atStart => exact ⟨0, t.s, by omega, by omega, rfl, HI0.out⟩
  case round =>
    obtain ⟨i, s', hil, hg, rfl, hA⟩ := hrel
    clear HI0
    have c0 := blk_cell hA.tr.mem 0 rfl
    have c2 := blk_cell hA.tr.mem 2 rfl
    have f2 := blk_frozen hA.tr.mem 2
    have hbr := blk_lt hA.tr.mem
    simp only at c0 c2
    by_cases hlt : i < ns.length
    · have hlt' : i < ns.length := hlt
      obtain ⟨_, a', cap', hveq, hrw⟩ := HV.out wr hA.chg
      injection hveq with e1 e2 e3
      subst e1 e3
      rcases hrw with hrw | ⟨pb, po, rfl, hpb, hrw⟩
      · subst hrw; simp at hlt'
      have hrow := hrw i hlt'
      have hlk := World.block_lt_of_cell? _ _ ((rng?_cell hrow).2 0 (by rw [(rng?_cell hrow).1]; omega))
      have hix := HI.out _ (List.getElem_mem hlt')
      have hW : Chg [] wr (wr.alloc (.cells ns[i] 36)).drew := ((Chg.refl _ _).alloc _).drew
      have htr := hA.tr.chg0 hW
      have hsn := hA.n
      have hsa := hA.al
      have hpush := push_calls t.sb s' ns[i] (wr.alloc (.cells ns[i] 36)).drew htr.st hix (by omega) (by omega)
      have hnx := fun (e : Ending) (w2 : World) (hp : PushP (wr.alloc (.cells ns[i] 36)).drew t.sb s' ns[i] e w2) => hA.next hlt' hW hp
      have d0 := blk_cell htr.mem 0 rfl
      simp only at d0
      have hs1 := hix.1
      have hs2 := hix.one
      have hbx := rng?_alloc_at wr wr.heap.size 32 ns[i] 36 rfl hs1
      have HP := Lib.hid hpush
      have HNX := Lib.hid hnx
      have HG := Lib.hid hg
      clear hpush hnx hg hA hrw htr hsn hsa hix c2 f2
      generalize ns[i] = x at *
      go_upto_region 10 with (fail)
      go_region_with (go_at_call 103; refine HP.out.mono ?_; intro e w2 hp; obtain ⟨he, s2, hA2⟩ := HNX.out e w2 hp; subst he)
      all_goals
        go_wp2
        go_roundg (ns.length - (i + 1))
        case measure => rw [HG.out]; omega
        case rel => exact ⟨i + 1, s2, by omega, rfl, by go_num, hA2⟩
    · obtain rfl : i = ns.length := by omega
      have hlast := hA.last (k := k)
      rw [show ((t.size + k : Nat) : Int) = (t.size : Int) + k from by omega] at hlast
      have HL := Lib.hid hlast
      clear hlast hA hg
      go_wp2
      go_ret
      exact HL.out
/-- The tree of the leaves ahead, with the nodes of more leaves installed: the tree of all. -/
theorem TreeOf.install {w0 w w' : World} {b : Nat} {t : TS} {wd : Int} {ls more ns : List (Array Value)} {e : Ending} (h : TreeOf w0 w b t wd ls) (hl : ns.length = nodesN (ls.length + more.length) - nodesN ls.length)
    (hg : ∀ i (h : i < ns.length), ns[i] = (treeV (widthI wd) (ls ++ more)).get (nodesN ls.length + i)) (hp : InsP w b t ns more.length e w') :
    e = .returned (.int .i64 0) ∧ ∃ t', TreeOf w0 w' b t' wd (ls ++ more) ∧ Chg (t.foot b) w w' ∧ (∀ x ∈ t'.foot b, x ∈ t.foot b ∨ w.heap.size ≤ x) := by
  obtain ⟨he, t', h1, h2, h3, h4, h5, h6, h7, h8, h9, h10⟩ := hp
  have hs := h.chg.size
  have hm := nodes_mono (show ls.length ≤ ls.length + more.length from by omega)
  have hsame : t'.s.view.same ((treeV (widthI wd) ls).pushes ns) := by
    rw [h5]
    have : ∀ (l : List (Array Value)) (u v : NV), u.same v → (u.pushes l).same (v.pushes l) := by
      intro l
      induction l with
      | nil => intro u v hs; exact hs
      | cons x l ih => intro u v hs; exact ih _ _ (NV.same_push hs x)
    exact this ns _ _ h.view
  have hi := install_same (widthI wd) ls more ns hl hg
  refine ⟨he, t', ⟨h1, h3.trans h.wdE, by rw [h4, h.size, List.length_append], ⟨hsame.1.trans hi.1, fun p => (hsame.2 p).trans (hi.2 p)⟩, ?_, ?_, ?_, h.chg.trans h9 (fun k hk => .inr (h.low k hk))⟩, h9, h10⟩
  · rw [h5]; exact NV.pushes_full ns _ h.fl
  · rw [h6, h.al, List.length_append]; omega
  · intro k hk
    rcases h10 k hk with q | q
    · exact h.low k q
    · omega
end Go.Proofs.YtpklkefnmoaaaaaGreatDoor

/- The document's tree: what Append, Install leave (plain). -/
namespace Go.Proofs.YtpklkefnmoaaaaaGreatDoor
open Go.RowKit
set_option linter.unusedVariables false
set_option linter.unusedSimpArgs false

structure RaI (w wr : World) (rb : Nat) (r : RT) (fin : NV) (h : Nat) (d' : DS) (lf : Array Value) : Prop where
  rt : RtIs wr rb { r with d := d' }
  chg : Chg (r.foot rb) w wr
  new : ∀ k ∈ d'.foot r.c, k ∈ r.foot rb ∨ w.heap.size ≤ k
  len : d'.ns.length = r.d.ns.length + 1 + h
  pin : ∀ p, pd d'.ns p = pd r.d.ns p
  last : (vd d'.ns).get (r.d.ns.length + h) = lf
  lh : IsHash lf
  cl : climb r.wd (t1 r.n - h) h (vd d'.ns) lf = fin
  h : h ≤ t1 r.n
theorem RaI.first {w w2 W : World} {rb : Nat} {r : RT} {leaf : Array Value} {e : Ending} {v : Value} (hr : RtIs w rb r) (hW : Chg [] w W) (hl : IsHash leaf) (hp : DP W r.c r.d (r.d.ns ++ [some (leaf, 0)]) v e w2) :
    e = .returned v ∧ ∃ d', RaI w w2 rb r (appV r.wd r.n (vd r.d.ns) leaf) 0 d' leaf := by
  obtain ⟨he, d', h1, h2, h3, h4⟩ := hp
  have h0 := (hr.chg0 hW).mvD h1 h4
  refine ⟨he, d', h0, hW.of_nil.trans h4.1 (fun k hk => .inl (by simp only [RT.foot, List.mem_cons]; exact .inr hk)), fun k hk => ?_, by rw [h2]; simp, fun p => by rw [h2, pd_push], ?_, hl, ?_, Nat.zero_le _⟩
  · rcases h4.2 k hk with q | q
    · exact .inl (by simp only [RT.foot, List.mem_cons]; exact .inr q)
    · have := hW.size; right; omega
  · rw [h2, vd_push]
    exact NV.push_last (vd r.d.ns) leaf
  · rw [h2, vd_push, Nat.sub_zero]
    rfl
theorem RaI.next {w wr W w2 : World} {rb h : Nat} {r : RT} {fin : NV} {d' : DS} {lf x : Array Value} {e : Ending} {v : Value} (hA : RaI w wr rb r fin h d' lf) (hlt : h < t1 r.n) (hW : Chg [] wr W)
    (hx : x = nodeA r.wd ((vd d'.ns).get (r.d.ns.length + h - (2 ^ (h + 1) - 1))) lf) (hxi : IsHash x) (hp : DP W r.c d' (d'.ns ++ [some (x, 0)]) v e w2) :
    e = .returned v ∧ ∃ d2, RaI w w2 rb r fin (h + 1) d2 x := by
  obtain ⟨he, d2, h1, h2, h3, h4⟩ := hp
  have h0 := (hA.rt.chg0 hW).mvD (r := { r with d := d' }) h1 h4
  have hs := hW.size
  have hsw := hA.chg.size
  refine ⟨he, d2, h0, (hA.chg.nil_trans hW).trans h4.1 (fun k hk => hA.new k hk), fun k hk => ?_, by rw [h2, List.length_append, hA.len]; simp; omega, fun p => by rw [h2, pd_push]; exact hA.pin p, ?_, hxi, ?_, by omega⟩
  · rcases h4.2 k hk with q | q
    · exact hA.new k q
    · right; omega
  · rw [h2, vd_push]
    have e1 : r.d.ns.length + (h + 1) = (vd d'.ns).n := by show _ = d'.ns.length; rw [hA.len]; omega
    rw [e1]
    exact NV.push_last _ x
  · have hc := hA.cl
    rw [show t1 r.n - h = (t1 r.n - (h + 1)) + 1 from by omega] at hc
    rw [h2, vd_push, ← hc, hx]
    have e2 : (vd d'.ns).n - 1 = r.d.ns.length + h := by show d'.ns.length - 1 = _; rw [hA.len]; omega
    rw [climb, e2]
def RApP (w : World) (rb : Nat) (r : RT) (leaf : Array Value) (e : Ending) (w' : World) : Prop :=
  e = .returned (.int .u64 r.n) ∧ ∃ r', RtIs w' rb r' ∧ r'.c = r.c ∧ r'.wd = r.wd ∧ r'.n = r.n + 1 ∧ vd r'.d.ns = appV r.wd r.n (vd r.d.ns) leaf ∧ (∀ p, pd r'.d.ns p = pd r.d.ns p) ∧ Chg (r.foot rb) w w' ∧ (∀ k ∈ r'.foot rb, k ∈ r.foot rb ∨ w.heap.size ≤ k)
theorem RtIs.setN {w : World} {rb : Nat} {r : RT} (h : RtIs w rb r) (n : Nat) : RtIs (w.setCell ⟨rb, 1, none⟩ (.int .u64 n)) rb { r with n := n } := by
  have hc : Chg [rb] w (w.setCell ⟨rb, 1, none⟩ (.int .u64 n)) := (Chg.refl _ _).setCell (by simp) _
  refine ⟨?_, h.st.chg hc (fun k hk hm => ?_), h.apart⟩
  · have := blk_set h.mem 1 (.int .u64 n)
    rw [this]
    rfl
  · simp at hm; subst hm; exact h.apart hk
theorem RaI.done {w wr W : World} {rb : Nat} {r : RT} {fin : NV} {d' : DS} {lf l0 : Array Value} (hA : RaI w wr rb r fin (t1 r.n) d' lf) (hf : fin = appV r.wd r.n (vd r.d.ns) l0) (hW : Chg [] wr W) :
    RApP w rb r l0 (.returned (.int .u64 r.n)) (W.setCell ⟨rb, 1, none⟩ (.int .u64 (r.n + 1 : Nat))) := by
  have hcl := hA.cl
  rw [Nat.sub_self] at hcl
  have h1 := (hA.rt.chg0 hW).setN (r.n + 1)
  have hc : Chg [rb] W (W.setCell ⟨rb, 1, none⟩ (.int .u64 (r.n + 1 : Nat))) := (Chg.refl _ _).setCell (by simp) _
  refine ⟨rfl, _, h1, rfl, rfl, rfl, ?_, hA.pin, (hA.chg.nil_trans hW).trans hc (fun k hk => .inl (by simp at hk; simp [RT.foot, hk])), fun k hk => ?_⟩
  · show vd d'.ns = _
    rw [← hf, ← hcl]
    rfl
  · simp only [RT.foot, List.mem_cons] at hk
    rcases hk with rfl | hk
    · exact .inl (by simp [RT.foot])
    · exact hA.new k hk
/-! Install. -/
structure RinI (w wr : World) (rb : Nat) (r : RT) (d' : DS) (hs : List (Array Value)) (i : Nat) : Prop where
  rt : RtIs wr rb { r with d := d' }
  chg : Chg (r.foot rb) w wr
  new : ∀ k ∈ d'.foot r.c, k ∈ r.foot rb ∨ w.heap.size ≤ k
  len : d'.ns.length = r.d.ns.length + i
  pin : ∀ p, pd d'.ns p = pd r.d.ns p
  view : vd d'.ns = (vd r.d.ns).pushes (hs.take i)
theorem RinI.zero {w : World} {rb : Nat} {r : RT} (hs : List (Array Value)) (h : RtIs w rb r) : RinI w w rb r r.d hs 0 :=
  ⟨h, Chg.refl _ _, fun k hk => .inl (by simp only [RT.foot, List.mem_cons]; exact .inr hk), by omega, fun _ => rfl, by rw [List.take_zero]; rfl⟩
theorem RinI.next {w wr W w2 : World} {rb i : Nat} {r : RT} {d' : DS} {hs : List (Array Value)} {e : Ending} {v : Value} (hA : RinI w wr rb r d' hs i) (hi : i < hs.length) (hW : Chg [] wr W) (hp : DP W r.c d' (d'.ns ++ [some (hs[i], 0)]) v e w2) :
    e = .returned v ∧ ∃ d2, RinI w w2 rb r d2 hs (i + 1) := by
  obtain ⟨he, d2, h1, h2, h3, h4⟩ := hp
  have h0 := (hA.rt.chg0 hW).mvD (r := { r with d := d' }) h1 h4
  have hsz := hW.size
  have hsw := hA.chg.size
  refine ⟨he, d2, h0, (hA.chg.nil_trans hW).trans h4.1 (fun k hk => hA.new k hk), fun k hk => ?_, by rw [h2, List.length_append, hA.len]; simp; omega, fun p => by rw [h2, pd_push]; exact hA.pin p, ?_⟩
  · rcases h4.2 k hk with q | q
    · exact hA.new k q
    · right; omega
  · rw [h2, vd_push, hA.view, List.take_succ_eq_append_getElem hi, NV.pushes_snoc]
def RInP (w : World) (rb : Nat) (r : RT) (hs : List (Array Value)) (k : Nat) (e : Ending) (w' : World) : Prop :=
  e = .returned (.int .i64 0) ∧ ∃ r', RtIs w' rb r' ∧ r'.c = r.c ∧ r'.wd = r.wd ∧ r'.n = r.n + k ∧ vd r'.d.ns = (vd r.d.ns).pushes hs ∧ (∀ p, pd r'.d.ns p = pd r.d.ns p) ∧ Chg (r.foot rb) w w' ∧ (∀ k ∈ r'.foot rb, k ∈ r.foot rb ∨ w.heap.size ≤ k)
theorem RinI.done {w wr W : World} {rb k : Nat} {r : RT} {d' : DS} {hs : List (Array Value)} (hA : RinI w wr rb r d' hs hs.length) (hW : Chg [] wr W) : RInP w rb r hs k (.returned (.int .i64 0)) (W.setCell ⟨rb, 1, none⟩ (.int .u64 (r.n + k : Nat))) := by
  have h1 := (hA.rt.chg0 hW).setN (r.n + k)
  have hc : Chg [rb] W (W.setCell ⟨rb, 1, none⟩ (.int .u64 (r.n + k : Nat))) := (Chg.refl _ _).setCell (by simp) _
  refine ⟨rfl, _, h1, rfl, rfl, rfl, ?_, hA.pin, (hA.chg.nil_trans hW).trans hc (fun k hk => .inl (by simp at hk; simp [RT.foot, hk])), fun k hk => ?_⟩
  · have := hA.view
    rw [List.take_length] at this
    exact this
  · simp only [RT.foot, List.mem_cons] at hk
    rcases hk with rfl | hk
    · exact .inl (by simp [RT.foot])
    · exact hA.new k hk
/-! Both trees behind Append, Install. -/
section
variable {F0 : List Nat} {w0 w w1 w' : World} {b rb m : Nat} {t t' : TS} {r r' : RT}
theorem Two.app (h : Two F0 w0 w b rb t r) (hr : Rel t r m) {x : Array Value} {e e2 : Ending} (h1 : AppP w b t x e w1) (h2 : ∀ t', Two F0 w0 w1 b rb t' r → RApP w1 rb r x e2 w') (h62 : t1 t.size ≤ 63) : Both F0 w0 b rb (m + 1) t.sb r.c w' := by
  obtain ⟨_, t', q1, q2, q3, q4, q5, q6, q7, q8, q9, q10, q11⟩ := h1
  have hT := h.movT q1 q10 q11
  obtain ⟨_, r', p1, p2, p3, p4, p5, p6, p7, p8⟩ := h2 t' hT
  refine ⟨t', r', hT.movR p1 p7 p8, ⟨by rw [p3, q3, hr.wd], by rw [p4, q4, hr.n], by rw [p5, q5, hr.wd, hr.n, hr.view], fun p => ?_, fun p => by rw [p6]; exact hr.pinR p, by rw [q6, q4, hr.full, nodes_succ], by rw [q4]; have := hr.size; omega, by rw [q7]; have := hr.al; omega⟩, q2, p2⟩
  unfold SS.pin
  rw [q9]
  exact hr.pinT p
theorem Two.ins (h : Two F0 w0 w b rb t r) (hr : Rel t r m) {hs : List (Array Value)} {k : Nat} {e e2 : Ending} (h1 : InsP w b t hs k e w1) (h2 : ∀ t', Two F0 w0 w1 b rb t' r → RInP w1 rb r hs k e2 w') (hk : k ≤ hs.length) (hl : hs.length = nodesN (t.size + k) - nodesN t.size) : Both F0 w0 b rb (m + hs.length) t.sb r.c w' := by
  obtain ⟨_, t', q1, q2, q3, q4, q5, q6, q7, q8, q9, q10⟩ := h1
  have hT := h.movT q1 q9 q10
  obtain ⟨_, r', p1, p2, p3, p4, p5, p6, p7, p8⟩ := h2 t' hT
  have hn : t'.s.n = t.s.n + hs.length := by
    have := congrArg NV.n q5
    rw [NV.pushes_n] at this
    exact this
  have hm := nodes_mono (show t.size ≤ t.size + k from by omega)
  refine ⟨t', r', hT.movR p1 p7 p8, ⟨by rw [p3, q3, hr.wd], by rw [p4, q4, hr.n], by rw [p5, q5, hr.view], fun p => ?_, fun p => by rw [p6]; exact hr.pinR p, by rw [hn, q4, hr.full]; omega, by rw [q4]; have := hr.size; omega, by rw [q6]; have := hr.al; omega⟩, q2, p2⟩
  unfold SS.pin
  rw [q8]
  exact hr.pinT p
theorem Two.both0 (h : Two F0 w0 w b rb t r) (hr : Rel t r m) {m' : Nat} (hm : m ≤ m') (hc : Chg [] w w') : Both F0 w0 b rb m' t.sb r.c w' := ⟨t, r, h.chg0 hc, hr.up hm, rfl, rfl⟩
theorem Both.chg0 {sb c : Nat} (h : Both F0 w0 b rb m sb c w) (hc : Chg [] w w') : Both F0 w0 b rb m sb c w' := by
  obtain ⟨t', r', h1, h2, h3⟩ := h
  exact ⟨t', r', h1.chg0 hc, h2, h3⟩
end
end Go.Proofs.YtpklkefnmoaaaaaGreatDoor

/- The document's count of nodes, plain. -/
namespace Go.Proofs.YtpklkefnmoaaaaaGreatDoor
set_option linter.unusedVariables false
set_option linter.unusedSimpArgs false
theorem nodes_half (n : Nat) : nodesN n = n + nodesN (n / 2) := by
  rcases two_cases n with ⟨k, rfl⟩ | ⟨k, rfl⟩
  · rw [Nat.mul_div_cancel_left _ (by omega)]
    have := popc_le_self k
    unfold nodesN
    rw [popc_even]
    omega
  · rw [show (2 * k + 1) / 2 = k from by omega]
    have := popc_le_self k
    unfold nodesN
    rw [popc_odd]
    omega
end Go.Proofs.YtpklkefnmoaaaaaGreatDoor

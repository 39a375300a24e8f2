/- The tree of given leaves, plainly: its nodes, and what each is made of. -/
import Derived.Test.YtnodjlgihhinpaaDoorLwA
namespace Go.Proofs.YtnodjlgihhinpaaDoor
open Go.RowKit
set_option linter.unusedVariables false
set_option linter.unusedSimpArgs false

def NV.zero : NV := ⟨0, fun _ => none⟩
def treeGo (wd : Int) : Nat → NV → List (Array Value) → NV
  | _, v, [] => v
  | k, v, x :: l => treeGo wd (k + 1) (appV wd k v x) l
def treeV (wd : Int) (l : List (Array Value)) : NV := treeGo wd 0 NV.zero l
theorem treeGo_snoc (wd : Int) : ∀ (l : List (Array Value)) (k : Nat) (v : NV) (x : Array Value), treeGo wd k v (l ++ [x]) = appV wd (k + l.length) (treeGo wd k v l) x
  | [], k, v, x => rfl
  | y :: l, k, v, x => by
    rw [List.cons_append, treeGo, treeGo_snoc wd l, treeGo, List.length_cons, show k + 1 + l.length = k + (l.length + 1) from by omega]
theorem treeGo_app (wd : Int) : ∀ (a b : List (Array Value)) (k : Nat) (v : NV), treeGo wd k v (a ++ b) = treeGo wd (k + a.length) (treeGo wd k v a) b
  | [], b, k, v => rfl
  | y :: a, b, k, v => by
    rw [List.cons_append, treeGo, treeGo_app wd a, treeGo, List.length_cons, show k + 1 + a.length = k + (a.length + 1) from by omega]
theorem treeV_snoc (wd : Int) (l : List (Array Value)) (x : Array Value) : treeV wd (l ++ [x]) = appV wd l.length (treeV wd l) x := by
  unfold treeV
  rw [treeGo_snoc, Nat.zero_add]
theorem treeV_app (wd : Int) (a b : List (Array Value)) : treeV wd (a ++ b) = treeGo wd a.length (treeV wd a) b := by
  unfold treeV
  rw [treeGo_app, Nat.zero_add]
theorem climb_n (wd : Int) : ∀ (k h : Nat) (v : NV) (x : Array Value), (climb wd k h v x).n = v.n + k
  | 0, _, _, _ => rfl
  | k + 1, h, v, x => by
    rw [climb, climb_n wd k]
    show v.n + 1 + k = v.n + (k + 1)
    omega
theorem app_n (wd : Int) (size : Nat) (v : NV) (x : Array Value) : (appV wd size v x).n = v.n + 1 + t1 size := climb_n wd _ _ _ _
theorem NV.push_last (v : NV) (x : Array Value) : (v.push x).get v.n = x := by
  show (if v.n < v.n + 1 then ((if v.n = v.n then some x else v.node v.n)).getD zeroHash else zeroHash) = x
  rw [if_pos (by omega), if_pos rfl]
  rfl
theorem climb_law (wd : Int) : ∀ (k h : Nat) (v : NV) (x : Array Value), 1 ≤ v.n → v.get (v.n - 1) = x → ∀ j, j < k →
    (climb wd k h v x).get (v.n + j) = nodeA wd ((climb wd k h v x).get (v.n + j - 2 ^ (h + 1 + j))) ((climb wd k h v x).get (v.n + j - 1))
  | 0, _, _, _, _, _, j, hj => by omega
  | k + 1, h, v, x, hn, hx, j, hj => by
    rw [climb]
    have hp := Nat.two_pow_pos (h + 1)
    have e1 : v.n - 1 - (2 ^ (h + 1) - 1) = v.n - 2 ^ (h + 1) := by omega
    rw [e1]
    generalize hy : nodeA wd (v.get (v.n - 2 ^ (h + 1))) x = y
    have hvn : (v.push y).n = v.n + 1 := rfl
    cases j with
    | zero =>
      simp only [Nat.add_zero]
      rw [climb_get wd k (h + 1) (v.push y) y v.n (by rw [hvn]; omega), NV.push_last, climb_get wd k (h + 1) (v.push y) y _ (by rw [hvn]; omega), NV.push_get v y (by omega),
        climb_get wd k (h + 1) (v.push y) y _ (by rw [hvn]; omega), NV.push_get v y (by omega), hx, hy]
    | succ j =>
      have := climb_law wd k (h + 1) (v.push y) y (by rw [hvn]; omega) (by rw [hvn, Nat.add_sub_cancel, NV.push_last]) j (by omega)
      rw [hvn] at this
      rw [show v.n + (j + 1) = v.n + 1 + j from by omega, show h + 1 + (j + 1) = h + 1 + 1 + j from by omega]
      exact this
/-- Nodes over these leaves. -/
structure Forest (wd : Int) (ls : List (Array Value)) (v : NV) : Prop where
  n : v.n = nodesN ls.length
  full : v.full
  leaf : ∀ i (h : i < ls.length), v.get (nodesN i) = ls[i]
  node : ∀ i, i < ls.length → ∀ r, r < t1 i → v.get (nodesN i + 1 + r) = nodeA wd (v.get (nodesN i + 1 + r - 2 ^ (r + 1))) (v.get (nodesN i + r))
theorem Forest.zero (wd : Int) : Forest wd [] NV.zero :=
  ⟨by rw [List.length_nil, nodes_zero]; rfl, fun p hp => by simp [NV.zero] at hp, fun i h => by simp at h, fun i h => by simp at h⟩
theorem Forest.app {wd : Int} {ls : List (Array Value)} {v : NV} (h : Forest wd ls v) (x : Array Value) : Forest wd (ls ++ [x]) (appV wd ls.length v x) := by
  have hl : (ls ++ [x]).length = ls.length + 1 := by simp
  have hsub : ∀ i, i < ls.length → nodesN i + t1 i < v.n := by
    intro i hi
    have := nodes_succ i
    have := nodes_mono (show i + 1 ≤ ls.length from hi)
    rw [h.n]; omega
  refine ⟨by rw [app_n, hl, nodes_succ, h.n], app_full _ _ h.full x, ?_, ?_⟩
  · intro i hi
    rw [List.getElem_append]
    split
    · rename_i q
      have := hsub i q
      rw [app_get _ _ _ _ (by omega)]
      exact h.leaf i q
    · have e : i = ls.length := by omega
      subst e
      rw [← h.n]
      unfold appV
      rw [climb_get _ _ _ _ _ _ (show v.n < v.n + 1 from by omega), NV.push_last]
      simp
  · intro i hi r hr
    rw [hl] at hi
    by_cases q : i < ls.length
    · have := hsub i q
      have hp := Nat.two_pow_pos (r + 1)
      rw [app_get _ _ _ _ (by omega), app_get _ _ _ _ (by omega), app_get _ _ _ _ (by omega)]
      exact h.node i q r hr
    · have e : i = ls.length := by omega
      subst e
      have := climb_law wd (t1 ls.length) 0 (v.push x) x (show 1 ≤ v.n + 1 from by omega) (by rw [show (v.push x).n - 1 = v.n from rfl]; exact NV.push_last v x) r hr
      rw [show (v.push x).n = v.n + 1 from rfl, h.n, Nat.zero_add, show nodesN ls.length + 1 + r - 1 = nodesN ls.length + r from by omega, Nat.add_comm 1 r] at this
      exact this
theorem Forest.go {wd : Int} : ∀ (l pre : List (Array Value)) (v : NV), Forest wd pre v → Forest wd (pre ++ l) (treeGo wd pre.length v l)
  | [], pre, v, h => by rw [List.append_nil]; exact h
  | x :: l, pre, v, h => by
    have := Forest.go l (pre ++ [x]) _ (h.app x)
    rw [List.append_assoc, List.singleton_append, List.length_append, List.length_singleton] at this
    exact this
theorem forest (wd : Int) (ls : List (Array Value)) : Forest wd ls (treeV wd ls) := Forest.go ls [] NV.zero (Forest.zero wd)
/-- Each place is a leaf's or stands over one. -/
theorem place_of : ∀ (n p : Nat), p < nodesN n → ∃ i, i < n ∧ ∃ r, r ≤ t1 i ∧ p = nodesN i + r
  | 0, p, h => by rw [nodes_zero] at h; omega
  | n + 1, p, h => by
    by_cases q : p < nodesN n
    · obtain ⟨i, hi, r⟩ := place_of n p q
      exact ⟨i, by omega, r⟩
    · rw [nodes_succ] at h
      exact ⟨n, by omega, p - nodesN n, by omega, by omega⟩
theorem treeGo_get (wd : Int) : ∀ (l : List (Array Value)) (k : Nat) (v : NV) {p : Nat}, p < v.n → (treeGo wd k v l).get p = v.get p
  | [], _, _, _, _ => rfl
  | x :: l, k, v, p, hp => by
    rw [treeGo, treeGo_get wd l _ _ (by rw [app_n]; omega), app_get _ _ _ _ hp]

/-! Two views with the same nodes. -/
def NV.same (u v : NV) : Prop := u.n = v.n ∧ ∀ p, u.get p = v.get p
theorem NV.same_push {u v : NV} (h : u.same v) (x : Array Value) : (u.push x).same (v.push x) := by
  refine ⟨by show u.n + 1 = v.n + 1; rw [h.1], fun p => ?_⟩
  by_cases q : p < v.n
  · rw [NV.push_get u x (by rw [h.1]; exact q), NV.push_get v x q, h.2]
  · by_cases e : p = v.n
    · subst e
      rw [NV.push_last, ← h.1, NV.push_last]
    · show (if p < u.n + 1 then _ else zeroHash) = (if p < v.n + 1 then _ else zeroHash)
      rw [h.1, if_neg (by omega), if_neg (by omega)]
theorem climb_same (wd : Int) : ∀ (k h : Nat) (u v : NV) (x : Array Value), u.same v → (climb wd k h u x).same (climb wd k h v x)
  | 0, _, _, _, _, hs => hs
  | k + 1, h, u, v, x, hs => by
    rw [climb, climb, hs.1, hs.2]
    exact climb_same wd k (h + 1) _ _ _ (NV.same_push hs _)
theorem app_same (wd : Int) (size : Nat) {u v : NV} (h : u.same v) (x : Array Value) : (appV wd size u x).same (appV wd size v x) := climb_same wd _ _ _ _ _ (NV.same_push h x)
/-- Nodes pushed one behind the other. -/
def NV.pushes (v : NV) (l : List (Array Value)) : NV := l.foldl NV.push v
theorem NV.pushes_n (l : List (Array Value)) : ∀ v : NV, (v.pushes l).n = v.n + l.length := by
  induction l with
  | nil => intro v; rfl
  | cons x l ih =>
    intro v
    show ((v.push x).pushes l).n = _
    rw [ih]
    show v.n + 1 + l.length = _
    rw [List.length_cons]
    omega
theorem NV.pushes_low (l : List (Array Value)) : ∀ (v : NV) {p : Nat}, p < v.n → (v.pushes l).get p = v.get p := by
  induction l with
  | nil => intro v p hp; rfl
  | cons x l ih =>
    intro v p hp
    show ((v.push x).pushes l).get p = _
    rw [ih _ (show p < v.n + 1 from by omega), NV.push_get v x hp]
theorem NV.pushes_at (l : List (Array Value)) : ∀ (v : NV) (i : Nat) (h : i < l.length), (v.pushes l).get (v.n + i) = l[i] := by
  induction l with
  | nil => intro v i h; simp at h
  | cons x l ih =>
    intro v i h
    show ((v.push x).pushes l).get _ = _
    cases i with
    | zero =>
      rw [Nat.add_zero, NV.pushes_low l _ (show v.n < v.n + 1 from by omega), NV.push_last]
      rfl
    | succ i =>
      have := ih (v.push x) i (by simpa using h)
      rw [show (v.push x).n + i = v.n + (i + 1) from by show v.n + 1 + i = _; omega] at this
      rw [this]
      rfl
theorem NV.pushes_full (l : List (Array Value)) : ∀ v : NV, v.full → (v.pushes l).full := by
  induction l with
  | nil => intro v h; exact h
  | cons x l ih => intro v h; exact ih _ (NV.push_full h x)
theorem NV.pushes_snoc (v : NV) (l : List (Array Value)) (x : Array Value) : v.pushes (l ++ [x]) = (v.pushes l).push x := by
  unfold NV.pushes
  rw [List.foldl_append]
  rfl
/-- Nodes that more leaves made, pushed onto the elder tree: the same nodes. -/
theorem install_same (wd : Int) (ls more ns : List (Array Value)) (hl : ns.length = nodesN (ls.length + more.length) - nodesN ls.length) (hg : ∀ i (h : i < ns.length), ns[i] = (treeV wd (ls ++ more)).get (nodesN ls.length + i)) :
    ((treeV wd ls).pushes ns).same (treeV wd (ls ++ more)) := by
  have h1 := forest wd ls
  have h2 := forest wd (ls ++ more)
  have hm := nodes_mono (show ls.length ≤ ls.length + more.length from by omega)
  have hn1 := h1.n
  have hn2 := h2.n
  rw [List.length_append] at hn2
  have hn3 := NV.pushes_n ns (treeV wd ls)
  refine ⟨by omega, fun p => ?_⟩
  by_cases q : p < nodesN ls.length
  · rw [NV.pushes_low _ _ (by omega), treeV_app, treeGo_get _ _ _ _ (by omega)]
  · by_cases q2 : p < nodesN (ls.length + more.length)
    · have := NV.pushes_at ns (treeV wd ls) (p - nodesN ls.length) (by omega)
      rw [show (treeV wd ls).n + (p - nodesN ls.length) = p from by omega] at this
      rw [this, hg, show nodesN ls.length + (p - nodesN ls.length) = p from by omega]
    · show (if p < _ then _ else zeroHash) = (if p < _ then _ else zeroHash)
      rw [if_neg (by omega), if_neg (by omega)]
/-! The width as it counts. -/
theorem widthI_fit (w : Int) : 1 ≤ widthI w ∧ widthI w ≤ 32 := by unfold widthI; omega
theorem widthI_idem (w : Int) : widthI (widthI w) = widthI w := by unfold widthI; omega
theorem widthN_I (w : Int) : widthN (widthI w) = widthN w := by unfold widthN widthI; omega
theorem compress_width {a b : Int} (h : widthN a = widthN b) (st blk : List Nat) : compressN a st blk = compressN b st blk := by
  unfold compressN cutN
  rw [h]
theorem absorb_width {a b : Int} (h : widthN a = widthN b) (s : HS) (c : Nat) : absorb a s c = absorb b s c := by
  unfold absorb
  simp only [compress_width h]
theorem absorbs_width {a b : Int} (h : widthN a = widthN b) (l : List Nat) : ∀ s, absorbs a s l = absorbs b s l := by
  intro s
  unfold absorbs
  congr 1
  funext s c
  exact absorb_width h s c
theorem sum_width {a b : Int} (h : widthN a = widthN b) (l : List Nat) : sumN a l = sumN b l := by
  have e : startN a = startN b := by unfold startN cutN; rw [h]
  unfold sumN
  rw [absorbs_width h, absorbs_width h, e]
theorem nodeA_width (w : Int) (x y : Array Value) : nodeA (widthI w) x y = nodeA w x y := by unfold nodeA nodeN; rw [sum_width (widthN_I w)]
theorem foldA_width (w : Int) (x y : Array Value) : foldA (widthI w) x y = foldA w x y := by unfold foldA foldN; rw [sum_width (widthN_I w)]
theorem rootA_width (w : Int) (n : Nat) (x : Array Value) : rootA (widthI w) n x = rootA w n x := by unfold rootA rootN; rw [sum_width (widthN_I w)]
theorem accA_width (w : Int) : ∀ l, accA (widthI w) l = accA w l
  | [] => rfl
  | [x] => rfl
  | x :: y :: l => by rw [accA, accA, accA_width w (y :: l), foldA_width]
end Go.Proofs.YtnodjlgihhinpaaDoor

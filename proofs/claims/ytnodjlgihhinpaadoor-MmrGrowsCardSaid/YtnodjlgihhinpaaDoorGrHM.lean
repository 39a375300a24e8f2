/- Texts put into one by pack.py: GrE GrF OvH LwR GrG HandK GrH. -/
import Derived.Deep.RegionHeld3
import Derived.Deep.MidRow
import Derived.Test.YtnodjlgihhinpaaDoorGrM
import Derived.Test.YtnodjlgihhinpaaDoorLwB
import Derived.Test.YtnodjlgihhinpaaDoorHsO
import Derived.Test.YtnodjlgihhinpaaDoorLwD
import Derived.Test.YtnodjlgihhinpaaDoorRng
import Derived.Test.YtnodjlgihhinpaaDoorRfMc
/- The document's Grow: perfect walked; which numbers are powers of two; the nodes by halves (plain). -/
namespace Go.Proofs.YtnodjlgihhinpaaDoor
open Go.RowKit
set_option linter.unusedVariables false
set_option linter.unusedSimpArgs false

theorem pow_of_popc : ∀ n, popc n = 1 → ∃ h, n = 2 ^ h := by
  intro n
  induction n using Nat.strongRecOn with
  | _ n ih =>
    intro hp
    rw [popc_two] at hp
    rcases two_cases n with ⟨k, rfl⟩ | ⟨k, rfl⟩
    · rw [Nat.mul_mod_right, Nat.mul_div_cancel_left _ (by omega), Nat.zero_add] at hp
      have hk : 0 < k := Nat.pos_of_ne_zero (fun e => by subst e; rw [popc_zero] at hp; cases hp)
      obtain ⟨h, e⟩ := ih k (by omega) hp
      exact ⟨h + 1, by rw [Nat.pow_succ, ← e]; omega⟩
    · rw [show (2 * k + 1) % 2 = 1 from by omega, show (2 * k + 1) / 2 = k from by omega] at hp
      have hk : popc k = 0 := by omega
      have : k = 0 := by
        by_cases e : k = 0
        · exact e
        · have : ∀ m, 0 < m → 0 < popc m := by
            intro m
            induction m using Nat.strongRecOn with
            | _ m ih2 =>
              intro hm
              rw [popc_two]
              rcases two_cases m with ⟨j, rfl⟩ | ⟨j, rfl⟩
              · have := ih2 j (by omega) (by omega)
                rw [Nat.mul_div_cancel_left _ (by omega)]
                omega
              · omega
          have := this k (by omega)
          omega
      subst this
      exact ⟨0, rfl⟩
theorem perf_iff {n : Nat} (hn : n ≤ 65536) : popc n = 1 ↔ ∃ h, h ≤ 16 ∧ n = 2 ^ h := by
  constructor
  · intro hp
    obtain ⟨h, e⟩ := pow_of_popc n hp
    refine ⟨h, ?_, e⟩
    by_cases hh : h ≤ 16
    · exact hh
    · have : 2 ^ 17 ≤ 2 ^ h := Nat.pow_le_pow_right (by omega) (by omega)
      have h17 : (2 : Nat) ^ 17 = 131072 := by decide
      omega
  · rintro ⟨h, _, rfl⟩
    exact popc_2pow h
set_option maxRecDepth 100000 in
theorem perf_calls (n : Nat) (hn : n ≤ 65536) (w : World) : Calls Tryd.prog 21 #[.int .i64 n] w fun e w' => e = .returned (.bool (decide (popc n = 1))) ∧ w' = w := by
  have hiff := perf_iff hn
  have HI := Lib.hid hiff
  clear hiff
  go_enter Tryd.func21, Tryd.ntmps21
  go_wp2
  go_loopg [3, 4] 17 (fun g p hh wx => ∃ h, h ≤ 17 ∧ g = 17 - h ∧ p = .int .i64 (2 ^ h : Nat) ∧ hh = .int .i64 h ∧ (∀ j, j < h → n ≠ 2 ^ j) ∧ wx = w)
  case atStart => exact ⟨0, by omega, by omega, rfl, rfl, by omega, rfl⟩
  case round =>
    obtain ⟨h, hh, hg, rfl, rfl, hno, rfl⟩ := hrel
    have HNO := Lib.hid hno
    have hpw : 2 ^ h ≤ 131072 := by
      have : 2 ^ h ≤ 2 ^ 17 := Nat.pow_le_pow_right (by omega) hh
      exact this
    have hps := Nat.pow_succ 2 h
    have HPS := Lib.hid hps
    obtain ⟨P, hP⟩ : ∃ P, 2 ^ h = P := ⟨_, rfl⟩
    rw [hP] at hpw ⊢
    rw [hP] at HPS
    have HP := Lib.hid hP
    clear hP hps hno
    by_cases hlt : h < 17
    · have hle : decide ((h : Int) ≤ 16) = true := by simp; omega
      by_cases he : n = P
      · have hb : ((n : Int) == (P : Int)) = true := by simp; omega
        have hd : decide (popc n = 1) = true := decide_eq_true (HI.out.2 ⟨h, by omega, he.trans HP.out.symm⟩)
        have HD := Lib.hid hd
        clear he hd
        go_wp2
        go_ret
        exact ⟨by rw [HD.out]; rfl, rfl⟩
      · have hb : ((n : Int) == (P : Int)) = false := by rw [beq_eq_false_iff_ne]; omega
        have HE := Lib.hid he
        clear he
        go_wp2
        go_roundg (17 - (h + 1))
        case measure => omega
        case rel => exact ⟨h + 1, by omega, rfl, by rw [HPS.out]; go_num, by go_num, fun j hj => by
          by_cases e : j = h
          · subst e; rw [HP.out]; exact HE.out
          · exact HNO.out j (by omega), rfl⟩
    · obtain rfl : h = 17 := by omega
      have hle : decide (((17 : Nat) : Int) ≤ 16) = false := by simp
      have hd : decide (popc n = 1) = false := decide_eq_false (fun hp => by
        obtain ⟨j, hj, e⟩ := HI.out.1 hp
        exact HNO.out j (by omega) e)
      have HD := Lib.hid hd
      clear hd
      go_wp2
      go_ret
      exact ⟨by rw [HD.out]; rfl, rfl⟩
end Go.Proofs.YtnodjlgihhinpaaDoor

/- The nodes over twice as many leaves are those of both halves and the one over both (plain). -/
namespace Go.Proofs.YtnodjlgihhinpaaDoor
open Go.RowKit
set_option linter.unusedVariables false
set_option linter.unusedSimpArgs false

theorem climb_width (w : Int) : ∀ (k h : Nat) (v : NV) (x : Array Value), climb (widthI w) k h v x = climb w k h v x
  | 0, _, _, _ => rfl
  | k + 1, h, v, x => by rw [climb, climb, nodeA_width, climb_width w k]
theorem treeGo_width (w : Int) : ∀ (l : List (Array Value)) (k : Nat) (v : NV), treeGo (widthI w) k v l = treeGo w k v l
  | [], _, _ => rfl
  | x :: l, k, v => by
    rw [treeGo, treeGo]
    unfold appV
    rw [climb_width, treeGo_width w l]
theorem treeV_width (w : Int) (l : List (Array Value)) : treeV (widthI w) l = treeV w l := treeGo_width w l 0 _
theorem forest_unique {wd : Int} {ls : List (Array Value)} {u v : NV} (hu : Forest wd ls u) (hv : Forest wd ls v) : ∀ p, p < nodesN ls.length → u.get p = v.get p := by
  intro p
  induction p using Nat.strongRecOn with
  | _ p ih =>
    intro hp
    obtain ⟨i, hi, r, hr, rfl⟩ := place_of _ _ hp
    cases r with
    | zero => rw [Nat.add_zero, hu.leaf i hi, hv.leaf i hi]
    | succ r =>
      have hp2 := Nat.two_pow_pos (r + 1)
      have e : nodesN i + (r + 1) = nodesN i + 1 + r := by omega
      rw [e] at ih hp ⊢
      rw [hu.node i hi r (by omega), hv.node i hi r (by omega), ih _ (by omega) (by omega), ih _ (by omega) (by omega)]
def NV.ofL (L : List (Array Value)) : NV := ⟨L.length, fun p => L[p]?⟩
theorem ofL_get (L : List (Array Value)) (p : Nat) : (NV.ofL L).get p = L.getD p zeroHash := by
  unfold NV.get NV.ofL
  simp only
  by_cases h : p < L.length
  · rw [if_pos h, List.getD_eq_getElem?_getD]
  · rw [if_neg h, List.getD_eq_getElem?_getD, List.getElem?_eq_none (by omega)]
    rfl
theorem t1_add : ∀ h j, j < 2 ^ h - 1 → t1 (2 ^ h + j) = t1 j
  | 0, j, hj => by simp at hj
  | h + 1, j, hj => by
    rw [Nat.pow_succ] at hj
    rcases two_cases j with ⟨k, rfl⟩ | ⟨k, rfl⟩
    · rw [Nat.pow_succ, show 2 ^ h * 2 + 2 * k = 2 * (2 ^ h + k) from by omega, t1_even, t1_even]
    · rw [Nat.pow_succ, show 2 ^ h * 2 + (2 * k + 1) = 2 * (2 ^ h + k) + 1 from by omega, t1_odd, t1_odd, t1_add h k (by omega)]
theorem half_forest {wd : Int} {h : Nat} {l r L R : List (Array Value)} (hl : l.length = 2 ^ h) (hr : r.length = 2 ^ h) (hL : Forest wd l (NV.ofL L)) (hR : Forest wd r (NV.ofL R)) :
    Forest wd (l ++ r) (NV.ofL (L ++ R ++ [nodeA wd (L.getD (L.length - 1) zeroHash) (R.getD (R.length - 1) zeroHash)])) := by
  generalize hx : nodeA wd (L.getD (L.length - 1) zeroHash) (R.getD (R.length - 1) zeroHash) = x
  have hp := Nat.two_pow_pos h
  have hM : nodesN (2 ^ h) = 2 * 2 ^ h - 1 := nodes_2pow h
  have hLl : L.length = 2 * 2 ^ h - 1 := by have := hL.n; rw [hl, hM] at this; exact this
  have hRl : R.length = 2 * 2 ^ h - 1 := by have := hR.n; rw [hr, hM] at this; exact this
  have hlen : (l ++ r).length = 2 * 2 ^ h := by rw [List.length_append]; omega
  have hpw : nodesN (2 * 2 ^ h) = 4 * 2 ^ h - 1 := by
    have := nodes_2pow (h + 1)
    rw [Nat.pow_succ, Nat.mul_comm (2 ^ h) 2] at this
    rw [this]; omega
  have gA : ∀ p, p < 2 * 2 ^ h - 1 → (NV.ofL (L ++ R ++ [x])).get p = (NV.ofL L).get p := fun p hp2 => by
    rw [ofL_get, ofL_get, List.getD_eq_getElem?_getD, List.getD_eq_getElem?_getD, List.append_assoc, List.getElem?_append_left (by omega)]
  have gB : ∀ q, q < 2 * 2 ^ h - 1 → (NV.ofL (L ++ R ++ [x])).get (2 * 2 ^ h - 1 + q) = (NV.ofL R).get q := fun q hq => by
    rw [ofL_get, ofL_get, List.getD_eq_getElem?_getD, List.getD_eq_getElem?_getD, List.append_assoc, List.getElem?_append_right (by omega), List.getElem?_append_left (by omega), hLl]
    congr 2
    omega
  have gC : (NV.ofL (L ++ R ++ [x])).get (4 * 2 ^ h - 2) = x := by
    rw [ofL_get, List.getD_eq_getElem?_getD, List.getElem?_append_right (by rw [List.length_append]; omega), List.length_append, show 4 * 2 ^ h - 2 - (L.length + R.length) = 0 from by omega]
    rfl
  have hsub : ∀ i, i < 2 ^ h → nodesN i + 1 + t1 i ≤ 2 * 2 ^ h - 1 := fun i hi => by
    have h1 := nodes_succ i
    have h2 := nodes_mono (show i + 1 ≤ 2 ^ h from hi)
    omega
  have hnj : ∀ j, j < 2 ^ h → nodesN (2 ^ h + j) = 2 * 2 ^ h - 1 + nodesN j := fun j hj => by
    rw [nodes_pow h j hj, Nat.pow_succ, Nat.mul_comm (2 ^ h) 2]
  refine ⟨?_, ?_, ?_, ?_⟩
  · show (L ++ R ++ [x]).length = _
    rw [hlen, hpw]
    simp only [List.length_append, List.length_singleton]
    omega
  · intro p hp2
    show ((L ++ R ++ [x])[p]?).isSome = true
    rw [List.getElem?_eq_getElem hp2]
    rfl
  · intro i hi
    rw [hlen] at hi
    by_cases q : i < 2 ^ h
    · have h1 := hsub i q
      rw [gA _ (by omega), hL.leaf i (by omega), List.getElem_append_left (by omega)]
    · have e : i = 2 ^ h + (i - 2 ^ h) := by omega
      have hj : i - 2 ^ h < 2 ^ h := by omega
      have h1 := hsub _ hj
      have h2 := hnj _ hj
      rw [← e] at h2
      rw [h2, gB _ (by omega), hR.leaf _ (by omega), List.getElem_append_right (by omega)]
      congr 1
      omega
  · intro i hi k hk
    rw [hlen] at hi
    have hp2 := Nat.two_pow_pos (k + 1)
    by_cases q : i < 2 ^ h
    · have h1 := hsub i q
      rw [gA _ (by omega), gA _ (by omega), gA _ (by omega)]
      exact hL.node i (by omega) k hk
    · obtain ⟨j, rfl⟩ : ∃ j, i = 2 ^ h + j := ⟨i - 2 ^ h, by omega⟩
      have hj : j < 2 ^ h := by omega
      have h1 := hsub _ hj
      have h2 := hnj _ hj
      have inR : k < t1 j → (NV.ofL (L ++ R ++ [x])).get (nodesN (2 ^ h + j) + 1 + k) = nodeA wd ((NV.ofL (L ++ R ++ [x])).get (nodesN (2 ^ h + j) + 1 + k - 2 ^ (k + 1))) ((NV.ofL (L ++ R ++ [x])).get (nodesN (2 ^ h + j) + k)) := fun hkj => by
        have h3 := t1_pow_le j
        have h4 : 2 ^ (k + 1) ≤ 2 ^ t1 j := Nat.pow_le_pow_right (by omega) (by omega)
        have h5 := nodes_ge j
        rw [h2, show 2 * 2 ^ h - 1 + nodesN j + 1 + k = 2 * 2 ^ h - 1 + (nodesN j + 1 + k) from by omega, show 2 * 2 ^ h - 1 + (nodesN j + 1 + k) - 2 ^ (k + 1) = 2 * 2 ^ h - 1 + (nodesN j + 1 + k - 2 ^ (k + 1)) from by omega,
          show 2 * 2 ^ h - 1 + nodesN j + k = 2 * 2 ^ h - 1 + (nodesN j + k) from by omega, gB _ (by omega), gB _ (by omega), gB _ (by omega)]
        exact hR.node j (by omega) k hkj
      by_cases hje : j < 2 ^ h - 1
      · rw [t1_add h j hje] at hk
        exact inR hk
      · have hj2 : j = 2 ^ h - 1 := by omega
        have e1 : 2 ^ h + j = 2 ^ (h + 1) - 1 := by rw [Nat.pow_succ]; omega
        have e2 : t1 j = h := by rw [hj2]; exact t1_pred h
        rw [e1, t1_pred] at hk
        by_cases hkh : k < h
        · exact inR (by omega)
        · have hkk : k = h := by omega
          subst hkk
          have e3 : nodesN j + 1 + k = 2 * 2 ^ k - 1 := by
            have := nodes_succ j
            rw [show j + 1 = 2 ^ k from by omega, hM, e2] at this
            omega
          have hpk : 2 ^ (k + 1) = 2 * 2 ^ k := by rw [Nat.pow_succ, Nat.mul_comm]
          rw [h2, hpk, show 2 * 2 ^ k - 1 + nodesN j + 1 + k = 4 * 2 ^ k - 2 from by omega, show 4 * 2 ^ k - 2 - 2 * 2 ^ k = 2 * 2 ^ k - 2 from by omega, show 2 * 2 ^ k - 1 + nodesN j + k = 2 * 2 ^ k - 1 + (2 * 2 ^ k - 2) from by omega,
            gC, gA _ (by omega), gB _ (by omega), ofL_get, ofL_get, ← hx, hLl, hRl]
          rw [show 2 * 2 ^ k - 1 - 1 = 2 * 2 ^ k - 2 from by omega]
/-- The nodes by halves. -/
def rgL (wd : Int) : Nat → List (Array Value) → List (Array Value)
  | 0, ls => ls
  | h + 1, ls => rgL wd h (ls.take (2 ^ h)) ++ rgL wd h (ls.drop (2 ^ h)) ++ [nodeA wd ((rgL wd h (ls.take (2 ^ h))).getD ((rgL wd h (ls.take (2 ^ h))).length - 1) zeroHash) ((rgL wd h (ls.drop (2 ^ h))).getD ((rgL wd h (ls.drop (2 ^ h))).length - 1) zeroHash)]
theorem rg_forest (wd : Int) : ∀ h ls, ls.length = 2 ^ h → Forest wd ls (NV.ofL (rgL wd h ls))
  | 0, ls, hl => by
    have hl1 : ls.length = 1 := hl
    have hn1 : nodesN 1 = 1 := by have := nodes_2pow 0; exact this
    refine ⟨by rw [hl1, hn1]; exact hl1, fun p hp => ?_, fun i hi => ?_, fun i hi r hr => ?_⟩
    · show (ls[p]?).isSome = true
      rw [List.getElem?_eq_getElem (show p < ls.length from hp)]; rfl
    · have : i = 0 := by omega
      subst this
      rw [ofL_get, nodes_zero]
      show (rgL wd 0 ls).getD 0 zeroHash = _
      rw [rgL, List.getD_eq_getElem?_getD, List.getElem?_eq_getElem hi]
      rfl
    · have : i = 0 := by omega
      subst this
      have := t1_even 0
      rw [Nat.mul_zero] at this
      omega
  | h + 1, ls, hl => by
    have hp := Nat.two_pow_pos h
    rw [Nat.pow_succ] at hl
    have h1 : (ls.take (2 ^ h)).length = 2 ^ h := by rw [List.length_take]; omega
    have h2 : (ls.drop (2 ^ h)).length = 2 ^ h := by rw [List.length_drop]; omega
    have := half_forest h1 h2 (rg_forest wd h _ h1) (rg_forest wd h _ h2)
    rw [List.take_append_drop] at this
    exact this
theorem rg_grow (wd : Int) (h : Nat) (ls : List (Array Value)) (hl : ls.length = 2 ^ h) : rgL wd h ls = (List.range (nodesN ls.length)).map (treeV (widthI wd) ls).get := by
  have hF := rg_forest wd h ls hl
  have hn : (rgL wd h ls).length = nodesN ls.length := hF.n
  apply List.ext_getElem
  · simp [hn]
  · intro i h1 h2
    rw [List.getElem_map, List.getElem_range, treeV_width, ← forest_unique hF (forest wd ls) i (by omega), ofL_get, List.getD_eq_getElem?_getD, List.getElem?_eq_getElem h1]
    rfl
end Go.Proofs.YtnodjlgihhinpaaDoor

/- Rows of hashes of the call's own, written over. -/
namespace Go.Proofs.YtnodjlgihhinpaaDoor
open Go.RowKit
set_option linter.unusedVariables false
set_option linter.unusedSimpArgs false
/-! Rows of hashes written over. -/
theorem flat_set {X : Array Value} (hX : X.size = 32) : ∀ (hs : List (Array Value)) (k : Nat), (∀ x ∈ hs, IsHash x) → k < hs.length →
    (hs.set k X).flatMap (·.toList) = (hs.flatMap (·.toList)).take (k * 32) ++ X.toList ++ (hs.flatMap (·.toList)).drop (k * 32 + 32) := by
  intro hs
  induction hs with
  | nil => intro k _ h; simp at h
  | cons x hs ih =>
    intro k hI hk
    have hx : x.toList.length = 32 := by rw [Array.length_toList]; exact (hI x (by simp)).1
    cases k with
    | zero =>
      simp only [List.set_cons_zero, List.flatMap_cons, Nat.zero_mul, List.take_zero, List.nil_append, Nat.zero_add]
      rw [← hx, List.drop_left]
    | succ k =>
      simp only [List.set_cons_succ, List.flatMap_cons]
      rw [ih k (fun y hy => hI y (by simp [hy])) (by simpa using hk)]
      rw [show (k + 1) * 32 = 32 + k * 32 from by omega, show 32 + k * 32 + 32 = 32 + (k * 32 + 32) from by omega]
      rw [List.take_append, List.drop_append, hx, List.take_of_length_le (l := x.toList) (by omega), List.drop_eq_nil_of_le (show x.toList.length ≤ 32 + (k * 32 + 32) from by omega), List.nil_append, show 32 + k * 32 - 32 = k * 32 from by omega, show 32 + (k * 32 + 32) - 32 = k * 32 + 32 from by omega]
      simp only [List.append_assoc]
theorem HOwn.putH {w : World} {B g n cap : Nat} {hs : List (Array Value)} (h : HOwn w B (.slice (some ⟨g, 0, none⟩) n cap) hs) {i : Nat} (hi : i < hs.length) {X : Array Value} (hX : IsHash X) :
    HOwn (setRng w g (i * 32) X) B (.slice (some ⟨g, 0, none⟩) n cap) (hs.set i X) ∧ may w g (i * 32) 32 = true := by
  have hfl := flat_length h.2
  have hIs : ∀ y ∈ hs.set i X, IsHash y := fun y hy => by
    rcases List.mem_or_eq_of_mem_set hy with q | q
    · exact h.2 y q
    · rw [q]; exact hX
  have hfs := flat_length hIs
  rw [List.length_set] at hfs
  have hlx : X.toList.length = 32 := by rw [Array.length_toList]; exact hX.1
  obtain ⟨hl, ⟨hv, _⟩ | ⟨g', cap', cur, hv, hb, hh, hnc, hm, hcs, ht⟩⟩ := h.1
  · cases hv
  · injection hv with e1 e2 e3
    injection e1 with e1
    injection e1 with e1
    subst e1 e2 e3
    have hcl : cur.toList.length = cap * 32 := by rw [Array.length_toList]; exact hcs
    have hnew := setRng_heap hh (i * 32) X (by rw [hX.1, hcs]; omega)
    have hsz : (cur.toList.take (i * 32) ++ X.toList ++ cur.toList.drop (i * 32 + X.size)).toArray.size = cap * 32 := by
      simp only [List.size_toArray, List.length_append, List.length_take, List.length_drop, hcl, hlx, hX.1]
      omega
    have htk : (cur.toList.take (i * 32) ++ X.toList ++ cur.toList.drop (i * 32 + X.size)).toArray.toList.take (hs.length * 32) = (hs.set i X).flatMap (·.toList) := by
      rw [flat_set hX.1 hs i h.2 hi, ← ht, List.take_take, Nat.min_eq_left (by omega), List.drop_take, hX.1]
      show List.take (hs.length * 32) (List.take (i * 32) cur.toList ++ X.toList ++ List.drop (i * 32 + 32) cur.toList) = _
      rw [List.append_assoc, List.append_assoc, List.take_append, List.length_take, hcl, Nat.min_eq_left (by omega), List.take_append, hlx]
      rw [List.take_of_length_le (l := List.take (i * 32) cur.toList) (by simp; omega), List.take_of_length_le (l := X.toList) (by rw [hlx]; omega), show hs.length * 32 - i * 32 - 32 = hs.length * 32 - (i * 32 + 32) from by omega]
    refine ⟨⟨⟨by rw [List.length_set]; exact hfs, .inr ⟨g, cap, _, by rw [List.length_set], hb, hnew, by rw [List.length_set]; exact hnc, hm, hsz, by rw [List.length_set]; exact htk⟩⟩, hIs⟩, may_row (o := i * 32) (n := 32) hh (by rw [hcs]; omega)⟩
def overH (x : Array Value) (k : Nat) (l : List (Array Value)) : List (Array Value) := List.replicate k x ++ l.drop k
theorem overH_zero (x : Array Value) (l : List (Array Value)) : overH x 0 l = l := by simp [overH]
theorem overH_len (x : Array Value) (k : Nat) (l : List (Array Value)) (hk : k ≤ l.length) : (overH x k l).length = l.length := by simp [overH]; omega
theorem overH_all (x : Array Value) (l : List (Array Value)) : overH x l.length l = List.replicate l.length x := by simp [overH]
theorem overH_set (x : Array Value) (k : Nat) (l : List (Array Value)) (hk : k < l.length) : (overH x k l).set k x = overH x (k + 1) l := by
  unfold overH
  rw [List.set_append_right _ _ (by simp)]
  simp only [List.length_replicate, Nat.sub_self]
  rw [List.drop_eq_getElem_cons hk, List.set_cons_zero, List.replicate_succ', List.append_assoc]
  rfl
theorem HOwn.overH {w : World} {B g cap k n : Nat} {x : Array Value} {l : List (Array Value)} (h : HOwn w B (.slice (some ⟨g, 0, none⟩) n cap) (overH x k l)) (hx : IsHash x) (hk : k < l.length) :
    HOwn (setRng w g (k * 32) x) B (.slice (some ⟨g, 0, none⟩) n cap) (Go.Proofs.YtnodjlgihhinpaaDoor.overH x (k + 1) l) ∧ may w g (k * 32) 32 = true ∧ g < w.heap.size := by
  have hp := h.putH (i := k) (by rw [overH_len x k l (by omega)]; exact hk) hx
  rw [overH_set x k l hk] at hp
  exact ⟨hp.1, hp.2, (own_lt h.1 g (by simp [ob_some])).2⟩
end Go.Proofs.YtnodjlgihhinpaaDoor

/- Rows of hashes: lists appended to a row of the call's own; 'row' of the trees' statements walked. -/
namespace Go.Proofs.YtnodjlgihhinpaaDoor
open Go.RowKit
set_option linter.unusedVariables false
set_option linter.unusedSimpArgs false

@[go_sem] theorem bs_Hash0 (w : World) : (bsX 22 0 #[]).run Tryd.prog w = .ok (.slice (some ⟨w.heap.size, 0, none⟩) 0 0) (w.alloc (.cells #[] 37)) := by
  obtain ⟨i, hi, hz, hsz, _⟩ := infoOf i_Hash
  have hso : ∀ w, (sizeOf 37).run Tryd.prog w = .ok 32 w := by intro w; simp [sizeOf, typeInfo, hi, hsz]
  unfold bsX Instr.buildSlice
  simp only [Sem.run_bind, run_underlying u_hashes, Result.andThen_ok, hso, Sem.run_ite, Nat.zero_mul, Sem.run_pure]
  simp only [show ¬ (0 > 2 ^ 24) from by decide, if_false, if_true, Result.andThen_ok]
  have e : (Array.map (fun x => (#[] : Array Value)[x % (#[] : Array Value).size]!) (Array.range 0)) = #[] := by simp
  rw [e]
  rfl
theorem HOwn.empty (w : World) (B : Nat) (hB : B ≤ w.heap.size) : HOwn (w.alloc (.cells #[] 37)) B (.slice (some ⟨w.heap.size, 0, none⟩) 0 0) [] :=
  ⟨own_new w B 37 32 0 #[] hB rfl (by decide), by simp⟩
theorem HsIs.rd {w : World} {a : Option Addr} {m cap : Nat} {l : List (Array Value)} (h : HsIs w (.slice a m cap) l) : m = l.length ∧ Rd w 32 a m (l.flatMap (·.toList)) := by
  obtain ⟨hI, a', cap', hv, hr⟩ := h
  injection hv with h1 h2 h3
  subst h1 h2
  refine ⟨rfl, flat_length hI, fun hm => ?_⟩
  rcases hr with hr | ⟨b, o, ha, hb, hr⟩
  · subst hr; simp at hm
  · refine ⟨b, o, ha, fun j u hu => ?_⟩
    have hjl : j < l.length * 32 := by
      have := (List.getElem?_eq_some_iff.1 hu).1
      rwa [flat_length hI] at this
    have hd : j / 32 < l.length := by omega
    have e := flat_at hI (j / 32) hd (j % 32) (by omega)
    rw [show j / 32 * 32 + j % 32 = j from by omega, hu] at e
    have hx := (hI _ (List.getElem_mem hd)).1
    have hc := (rng?_cell (hr (j / 32) hd)).2 (j % 32) (by rw [hx]; omega)
    rw [show o + j / 32 * 32 + j % 32 = o + j from by omega] at hc
    rw [hc]
    rw [e]
    rw [Array.getElem?_eq_getElem (by rw [hx]; omega)]
theorem HOwn.append {w : World} {B : Nat} {v : Value} {hs l : List (Array Value)} {a : Option Addr} {m cap : Nat} (h : HOwn w B v hs) (hl : HsIs w (.slice a m cap) l) (hlen : hs.length + l.length ≤ 4294967296) (hB : B ≤ w.heap.size) (ty : TypeId) :
    ∃ v' w', (Builtin.append_ #[22, 22] ty #[v, .slice a m cap]).run Tryd.prog w = .ok v' w' ∧ HOwn w' B v' (hs ++ l) ∧ Chg (ob v) w w' ∧ (∀ k ∈ ob v', k ∈ ob v ∨ w.heap.size ≤ k) := by
  obtain ⟨i, hi, hz, hsz, hby⟩ := infoOf i_Hash
  obtain ⟨rfl, hrd⟩ := hl.rd
  obtain ⟨v', w', hr, h2, h3, h4⟩ := run_append_any (P := Tryd.prog) w B 22 ty 37 i _ 32 32 u_hashes hi hz hsz hby zeroHash_size (by decide) v hs.length _ h.1 a l.length cap _ hrd
    (fun u hu => by
      obtain ⟨x, hx, hux⟩ := List.mem_flatMap.1 hu
      obtain ⟨n, rfl, _⟩ := (hl.1 x hx).2 u hux
      rfl) (by unfold maxLen; omega) (by omega) hB
  refine ⟨v', w', hr, ⟨?_, fun y hy => ?_⟩, h3, h4⟩
  · rw [List.length_append, List.flatMap_append]
    exact h2
  · rcases List.mem_append.1 hy with q | q
    · exact h.2 y q
    · exact hl.1 y q
/-- A row with one hash more, seen without it. -/
theorem HOwn.form {w : World} {B : Nat} {v : Value} {l : List (Array Value)} {x : Array Value} (h : HOwn w B v (l ++ [x])) :
    ∃ g cap, v = .slice (some ⟨g, 0, none⟩) (l.length + 1) cap ∧ l.length + 1 ≤ cap ∧ cap ≤ maxLen ∧ B ≤ g ∧ HOwn w B (.slice (some ⟨g, 0, none⟩) l.length cap) l := by
  have hl := flat_length h.2
  rcases h.1.2 with ⟨rfl, h0⟩ | ⟨g, cap, cur, rfl, hb, hh, hnc, hm, hcs, ht⟩
  · simp at h0
  · rw [List.length_append, List.length_singleton] at hnc ht ⊢
    refine ⟨g, cap, rfl, hnc, hm, hb, ⟨?_, .inr ⟨g, cap, cur, rfl, hb, hh, by omega, hm, hcs, ?_⟩⟩, fun y hy => h.2 y (by simp [hy])⟩
    · exact flat_length (fun y hy => h.2 y (by simp [hy]))
    · have e := congrArg (List.take (l.length * 32)) ht
      rw [List.take_take, Nat.min_eq_left (by omega), List.flatMap_append] at e
      rw [e, List.take_left' (flat_length (fun y hy => h.2 y (by simp [hy])))]
def RowP (w : World) (l : List (Array Value)) (e : Ending) (w' : World) : Prop :=
  ∃ g cap, e = .returned (.slice (some ⟨g, 0, none⟩) l.length cap) ∧ l.length + 1 ≤ cap ∧ w.heap.size ≤ g ∧ HOwn w' w.heap.size (.slice (some ⟨g, 0, none⟩) (l.length + 1) cap) (l ++ [hash1 171]) ∧ HOwn w' w.heap.size (.slice (some ⟨g, 0, none⟩) l.length cap) l ∧ Chg [] w w'
set_option maxRecDepth 100000 in
theorem row_calls (w : World) (lv : Value) (l : List (Array Value)) (hv : HsIs w lv l) (hlen : l.length ≤ 1000000) : Calls Tryd.prog 6 #[lv] w (RowP w l) := by
  obtain ⟨a, cap, rfl⟩ : ∃ a cap, lv = .slice a l.length cap := by obtain ⟨_, a, cap, h, _⟩ := hv; exact ⟨a, cap, h⟩
  have h0 := HOwn.empty w w.heap.size (Nat.le_refl _)
  have c0 : Chg [] w (w.alloc (.cells #[] 37)) := (Chg.refl _ _).alloc _
  obtain ⟨v1, w1, hr1, h1, c1, b1⟩ := h0.append (hv.chg0 c0) (by simp; omega) (by simp) 22
  rw [List.nil_append] at h1
  have c01 : Chg [] w w1 := c0.trans c1 (fun k hk => .inr (by rw [ob_some] at hk; simp at hk; omega))
  have h71 : IsHash (hash1 171) := hash1_is (by omega) (by omega)
  obtain ⟨v2, w2, hr2, h2, c2, b2⟩ := h1.push (hash1 171) h71 (by omega) c01.size 22
  have hol := own_lt h1.1
  have c02 : Chg [] w w2 := c01.trans c2 (fun k hk => .inr (hol k hk).1)
  obtain ⟨g, cap2, rfl, hcap, hmx, hg, h3⟩ := h2.form
  have hfin : RowP w l (.returned (.slice (some ⟨g, 0, none⟩) l.length cap2)) w2 := ⟨g, cap2, rfl, hcap, hg, h2, h3, c02⟩
  have HF := Lib.hid hfin
  have s71 := h71.1
  unfold maxLen at hmx
  clear h0 c0 h1 c1 b1 c01 h2 c2 b2 hol c02 h3 hfin hv hg h71
  go_enter Tryd.func6, Tryd.ntmps6
  go_wp2_with (first
    | (at_builtin; refine Lib.wpList_append_run _ rfl _ _ _ _ rfl _ _ rfl rfl _ _ hr1 ?_)
    | (at_builtin; refine Lib.wpList_append_run _ rfl _ _ _ _ rfl _ _ rfl rfl _ _ hr2 ?_))
  go_ret
  exact HF.out
end Go.Proofs.YtnodjlgihhinpaaDoor

/- mark, all, marked of the trees' statements walked. -/
namespace Go.Proofs.YtnodjlgihhinpaaDoor
open Go.RowKit
set_option linter.unusedVariables false
set_option linter.unusedSimpArgs false

def MarkP (w : World) (v : Value) (n : Nat) (x : Array Value) (e : Ending) (w' : World) : Prop := ∃ v', e = .returned v' ∧ HOwn w' 0 v' (List.replicate (n + 2) x) ∧ Chg (ob v) w w' ∧ ∀ k ∈ ob v', k ∈ ob v ∨ w.heap.size ≤ k
set_option maxRecDepth 100000 in
theorem mark_calls (w : World) (B : Nat) (v : Value) (l : List (Array Value)) (h : HOwn w B v l) (hlen : l.length ≤ 100000) (x : Nat) (hx : x < 256) : Calls Tryd.prog 11 #[v, .int .u8 x] w (MarkP w v l.length (hash1 x)) := by
  obtain ⟨w0, rfl⟩ : ∃ w0 : World, w0 = w := ⟨_, rfl⟩
  have hX : IsHash (hash1 x) := hash1_is (by omega) (by omega)
  have hU : HOwn w0 0 v l := ⟨own_mono h.1 (Nat.zero_le _), h.2⟩
  obtain ⟨a, n, cap, rfl, hn, ha⟩ : ∃ a n cap, v = .slice a n cap ∧ n = l.length ∧ (0 < n → ∃ g, a = some ⟨g, 0, none⟩) := by
    rcases h.1.2 with ⟨rfl, h0⟩ | ⟨g, cap, cur, rfl, _⟩
    · exact ⟨none, 0, 0, rfl, h0.symm, fun q => by omega⟩
    · exact ⟨_, l.length, cap, rfl, rfl, fun _ => ⟨g, rfl⟩⟩
  rw [← hn]
  have HN := Lib.hid hn
  have s1 := hX.1
  have s2 := hX.one
  have HX := Lib.hid hX
  have hnb : n ≤ 100000 := by omega
  clear h hX hn hlen
  go_enter Tryd.func11, Tryd.ntmps11
  go_wp2
  go_loopg [5] n (fun g ii wx => ∃ k, k ≤ n ∧ g = n - k ∧ ii = .int .i64 k ∧ HOwn wx 0 (.slice a n cap) (overH (hash1 x) k l) ∧ Chg (ob (.slice a n cap)) w0 wx)
  case atStart => exact ⟨0, by omega, by omega, rfl, by rw [overH_zero]; exact hU, Chg.refl _ _⟩
  case round =>
    clear hU
    obtain ⟨k, hkl, hg, rfl, hU, hC⟩ := hrel
    by_cases hlt : k < n
    · obtain ⟨g', rfl⟩ := ha (by omega)
      obtain ⟨hn1, hm1, hl1⟩ := hU.overH HX.out (show k < l.length by rw [← HN.out]; exact hlt)
      have hcA : Chg [g'] wr (setRng wr g' (k * 32) (hash1 x)) := setRng_chg _ _ _ _
      have hCf := hC.trans hcA (fun z hz => .inl (by simp at hz; subst hz; simp [ob_some]))
      have HN1 := Lib.hid hn1
      have HCF := Lib.hid hCf
      have HG := Lib.hid hg
      have k0 : (0 : Int) ≤ (k : Int) := by omega
      have k1 : (k : Int) < (n : Int) := by omega
      clear hn1 hCf hcA hU hC hg ha
      go_wp2
      go_roundg (n - (k + 1))
      case measure => rw [HG.out]; omega
      case rel => exact ⟨k + 1, by omega, rfl, by go_num, HN1.out, HCF.out⟩
    · obtain rfl : k = n := by omega
      rw [show overH (hash1 x) k l = List.replicate k (hash1 x) from by rw [HN.out, overH_all]] at hU
      have hl1 := own_lt hU.1
      obtain ⟨v1, w3, hr1, hO1, hc3, hb3⟩ := HOwn.push hU (hash1 x) HX.out (by simp; omega) (Nat.zero_le _) 22
      obtain ⟨v2, w4, hr2, hO2, hc4, hb4⟩ := HOwn.push hO1 (hash1 x) HX.out (by simp; omega) (Nat.zero_le _) 22
      have hO : HOwn w4 0 v2 (List.replicate (k + 2) (hash1 x)) := by
        rw [List.replicate_succ', List.replicate_succ']; exact hO2
      have hfin : MarkP w0 (.slice a k cap) k (hash1 x) (.returned v2) w4 := ⟨v2, rfl, hO, (hC.trans hc3 (fun z hz => .inl hz)).trans hc4 (fun z hz => by
        rcases hb3 z hz with q | q
        · exact .inl q
        · exact .inr (by have := hC.size; omega)), fun z hz => by
        rcases hb4 z hz with q | q
        · rcases hb3 z q with q | q
          · exact .inl q
          · exact .inr (by have := hC.size; omega)
        · exact .inr (by have := hC.size; have := hc3.size; omega)⟩
      have HF := Lib.hid hfin
      clear hfin hO hO1 hO2 hU hC hc3 hc4 hb3 hb4 hl1 hg ha
      go_wp2_with (first
        | (at_builtin; refine Lib.wpList_append_run _ rfl _ _ _ _ rfl _ _ rfl rfl _ _ hr1 ?_)
        | (at_builtin; refine Lib.wpList_append_run _ rfl _ _ _ _ rfl _ _ rfl rfl _ _ hr2 ?_))
      go_ret
      exact HF.out
set_option maxRecDepth 100000 in
theorem all_calls (w : World) (v : Value) (m : Nat) (x : Nat) (hx : x < 256) (ha : HsIs w v (List.replicate m (hash1 x))) (hlen : m ≤ 1000000) : Calls Tryd.prog 12 #[v, .int .u8 x] w (Res w [] (.bool true)) := by
  obtain ⟨w0, rfl⟩ : ∃ w0 : World, w0 = w := ⟨_, rfl⟩
  have hX : IsHash (hash1 x) := hash1_is (by omega) (by omega)
  obtain ⟨hI, a, cap, rfl, hr⟩ := ha
  rw [List.length_replicate]
  have heq : eqH (hash1 x) (hash1 x) = true := eqH_self
  have s1 := hX.1
  have s2 := hX.one
  clear hI
  go_enter Tryd.func12, Tryd.ntmps12
  go_wp2
  go_loopg [5] m (fun g ii wx => ∃ n : Nat, n ≤ m ∧ g = m - n ∧ ii = .int .i64 n ∧ Chg [] w0 wx)
  case atStart => exact ⟨0, by omega, by omega, rfl, Chg.refl _ _⟩
  case round =>
    obtain ⟨n, hnl, hg, rfl, hC⟩ := hrel
    by_cases hlt : n < m
    · rcases hr with hr | ⟨pb, po, rfl, hpb, hr⟩
      · have := congrArg List.length hr; simp at this; omega
      have r1 := rng?_chg hC (hr n (by rw [List.length_replicate]; exact hlt)) (by omega) (by simp)
      rw [List.getElem_replicate] at r1
      have l1 := World.block_lt_of_cell? _ _ ((rng?_cell r1).2 0 (by rw [(rng?_cell r1).1]; omega))
      have n0 : (0 : Int) ≤ (n : Int) := by omega
      have n1 : (n : Int) < (m : Int) := by omega
      have HG := Lib.hid hg
      have HC := Lib.hid hC
      clear hg hr hC
      go_wp2
      go_roundg (m - (n + 1))
      case measure => rw [HG.out]; omega
      case rel => exact ⟨n + 1, by omega, rfl, by go_num, HC.out⟩
    · obtain rfl : n = m := by omega
      clear hg hr
      go_wp2
      go_ret
      exact ⟨rfl, hC⟩
set_option maxRecDepth 100000 in
theorem marked_calls (w : World) (B g cap n : Nat) (l : List (Array Value)) (h : HOwn w B (.slice (some ⟨g, 0, none⟩) (n + 1) cap) (l ++ [hash1 171])) (hn : n = l.length) (hc : n + 1 ≤ cap) (hlen : n ≤ 1000000) :
    Calls Tryd.prog 10 #[.slice (some ⟨g, 0, none⟩) n cap] w (Res w [] (.bool true)) := by
  obtain ⟨w0, rfl⟩ : ∃ w0 : World, w0 = w := ⟨_, rfl⟩
  obtain ⟨hI, a, cap', hv, hr⟩ := h.hs
  rcases hr with hr | ⟨pb, po, rfl, hpb, hr⟩
  · simp at hr
  injection hv with e1 e2 e3
  injection e1 with e1
  injection e1 with e1 e4
  subst e1 e3 e4
  have r1 := hr n (by simp; omega)
  rw [List.getElem_append_right (by omega)] at r1
  simp only [List.getElem_singleton, Nat.zero_add] at r1
  have hX : IsHash (hash1 171) := hash1_is (by omega) (by omega)
  have heq : eqH (hash1 171) (hash1 171) = true := eqH_self
  have s1 := hX.1
  have s2 := hX.one
  have n1 : (n : Int) + 1 ≤ (cap : Int) := by omega
  have n2 : (0 : Int) ≤ (n : Int) + 1 := by omega
  have n3 : (n : Int) < (n : Int) + 1 := by omega
  have n4 : ((n : Int) + 1).toNat = n + 1 := by omega
  clear hr hI h hn e2
  go_enter Tryd.func10, Tryd.ntmps10
  go_wp2
  go_ret
  exact ⟨rfl, Chg.refl _ _⟩
end Go.Proofs.YtnodjlgihhinpaaDoor

/- A region walked by hand: the condition on the world may be made stronger on the way (what a call of the region has made is known from there on). Nothing of a program. -/
namespace Go.Proofs.YtnodjlgihhinpaaDoor
open Go.RowKit
set_option linter.unusedVariables false
set_option linter.unusedSimpArgs false
theorem wpAnyH_more {P : Program} {md : Region.Mode} {ops : Array Oper} {Q : Exit → Act → World → Prop} {S S' : World → Prop} (hi : ∀ w, S' w → S w) :
    ∀ (fuel : Nat) (listed : Array Bool) (a : Act) (w : World), wpAnyH P md ops Q S' fuel listed a w → wpAnyH P md ops Q S fuel listed a w
  | 0, _, _, _, h => h
  | fuel + 1, _, _, _, h => ⟨h.1, fun i hi' => wpOp_mono (fun a' w' h' => ⟨hi _ h'.1, wpAnyH_more hi fuel _ a' w' h'.2⟩) (h.2 i hi')⟩
end Go.Proofs.YtnodjlgihhinpaaDoor

/- The document's Grow walked; the program's refuses what is not a power of two. -/
namespace Go.Proofs.YtnodjlgihhinpaaDoor
open Go.RowKit Go.Shelf
set_option linter.unusedVariables false
set_option linter.unusedSimpArgs false
attribute [local go_sem] Oper.semAt_some
attribute [local go_sem ↓] hold_apG

set_option maxRecDepth 100000 in
theorem mgrow_refuses (w : World) (wd : Int) (lv : Value) (ls : List (Array Value)) (hv : HsIs w lv ls) (hlen : ls.length ≤ 65536) (hp : popc ls.length ≠ 1) :
    Calls Tryd.prog 8 #[.int .i64 wd, lv] w (Res w [] (.tuple #[.slice none 0 0, .int .i64 70])) := by
  obtain ⟨hI, a, cap, rfl, hr⟩ := hv
  obtain ⟨w0, rfl⟩ : ∃ w0 : World, w0 = w := ⟨_, rfl⟩
  have hones := ones_calls ls.length (by omega) w0
  have hpb : ((popc ls.length : Int) != 1) = true := by simp; omega
  generalize popc ls.length = pc at *
  clear hI hr hp
  refine callsIn_wide (n := 0).1 ?_
  refine callsIn_of_wp_marks Tryd.func8 rfl trivial ?_ rfl
  simp only [Tryd.ntmps8, List.size_toArray, List.length_cons, List.length_nil, Nat.reduceAdd, Nat.reduceSub, Array.replicate_succ, Array.replicate_zero, List.push_toArray, List.append_toArray, List.nil_append, List.cons_append]
  gi_wp2_with (refine ⟨trivial, rfl, ?_⟩; first
    | (gi_at_call 23; refine (callsIn_wide.2 hones).mono ?_; rintro e w1 ⟨rfl, hw1⟩; obtain rfl : w0 = w1 := hw1.symm))
  refine ⟨_, results_tmp2 rfl _ _ _, rfl, Chg.refl _ _⟩
theorem HOwn.rowsN {w : World} {B : Nat} {v : Value} {l : List (Array Value)} (h : HOwn w B v l) : ∃ a cap, v = .slice a l.length cap ∧ ∀ i (hi : i < l.length), ∃ g, a = some ⟨g, 0, none⟩ ∧ g < w.heap.size ∧ B ≤ g ∧ rng? w g (i * 32) 32 = some l[i] := by
  obtain ⟨hI, a, cap, rfl, hr⟩ := h.hs
  refine ⟨a, cap, rfl, fun i hi => ?_⟩
  rcases hr with q | ⟨g, o, rfl, hg, hr⟩
  · rw [q] at hi; simp at hi
  · have hol := own_lt h.1
    rcases h.1.2 with ⟨hv, h0⟩ | ⟨g', cap', cur, hv, hb, _⟩
    · cases hv
    · injection hv with e1
      injection e1 with e1
      injection e1 with e1 e2
      subst e1 e2
      refine ⟨g, rfl, hg, hb, ?_⟩
      have := hr i hi
      rwa [Nat.zero_add] at this
theorem HsC.takeC {w : World} {a : Option Addr} {m cap : Nat} {l : List (Array Value)} (h : HsC w (.slice a m cap) l) (n : Nat) (hn : n ≤ l.length) : HsC w (.slice a n cap) (l.take n) := by
  obtain ⟨⟨hI, a', cap', hv, hr⟩, hc⟩ := h
  injection hv with h1 h2 h3
  subst h1 h3
  have hc0 := hc _ _ _ rfl
  refine ⟨⟨fun x hx => hI x (List.mem_of_mem_take hx), a, cap, by rw [List.length_take, Nat.min_eq_left hn], ?_⟩, fun a' n' cap' e => by injection e with e1 e2 e3; subst e2 e3; omega⟩
  rcases hr with hr | ⟨b, o, ha, hb, hr⟩
  · exact .inl (by rw [hr]; simp)
  · refine .inr ⟨b, o, ha, hb, fun i hi => ?_⟩
    have hi2 : i < l.length := by rw [List.length_take] at hi; omega
    rw [hr i hi2, List.getElem_take]
theorem HsC.dropC {w : World} {b o m cap : Nat} {l : List (Array Value)} (h : HsC w (.slice (some ⟨b, o, none⟩) m cap) l) (n : Nat) (hn : n < l.length) : HsC w (.slice (some ⟨b, o + n * 32, none⟩) (m - n) (cap - n)) (l.drop n) := by
  obtain ⟨⟨hI, a', cap', hv, hr⟩, hc⟩ := h
  injection hv with h1 h2 h3
  subst h1 h3
  have hc0 := hc _ _ _ rfl
  refine ⟨⟨fun x hx => hI x (List.mem_of_mem_drop hx), some ⟨b, o + n * 32, none⟩, cap - n, by rw [List.length_drop, h2], ?_⟩, fun a' n' cap' e => by injection e with e1 e2 e3; subst e2 e3; omega⟩
  rcases hr with hr | ⟨b', o', ha, hb, hr⟩
  · rw [hr] at hn; simp at hn
  · injection ha with e1
    injection e1 with e1 e2
    subst e1 e2
    refine .inr ⟨b, _, rfl, hb, fun i hi => ?_⟩
    rw [List.length_drop] at hi
    rw [List.getElem_drop, ← hr (n + i) (by omega)]
    congr 1
    omega
theorem HsC.chg0 {w w' : World} {v : Value} {hs : List (Array Value)} (h : HsC w v hs) (hc : Chg [] w w') : HsC w' v hs := ⟨h.1.chg0 hc, h.2⟩
def R6P (w : World) (L : List (Array Value)) (e : Ending) (w' : World) : Prop := ∃ v, e = .returned (.tuple #[v, .int .i64 0]) ∧ HOwn w' w.heap.size v L ∧ Chg [] w w'
set_option maxRecDepth 100000 in
theorem r6grow_one (wd : Int) (w : World) (lv : Value) (x : Array Value) (hc : HsC w lv [x]) : Calls Tryd.prog 7 #[.int .i64 wd, lv] w (R6P w [x]) := by
  obtain ⟨w0, rfl⟩ : ∃ w0 : World, w0 = w := ⟨_, rfl⟩
  obtain ⟨⟨hI, a, cap, rfl, hr⟩, hcap⟩ := hc
  rcases hr with hr | ⟨pb, po, rfl, hpb, hr⟩
  · cases hr
  have hrow := hr 0 (by simp)
  rw [Nat.zero_mul, Nat.add_zero] at hrow
  simp only [List.getElem_cons_zero] at hrow
  have hx := hI x (by simp)
  have s1 := hx.1
  have s2 := hx.one
  have hpf := perf_calls 1 (by omega) w0
  rw [show popc 1 = 1 from popc_2pow 0, show ((1 : Nat) : Int) = 1 from rfl] at hpf
  have hO : HOwn (w0.alloc (.cells x 37)) w0.heap.size (.slice (some ⟨w0.heap.size, 0, none⟩) 1 1) [x] := by
    have := own_new w0 w0.heap.size 37 32 1 x (Nat.le_refl _) s1 (by decide)
    exact ⟨by simpa using this, by simpa using hx⟩
  have hfin : R6P w0 [x] (.returned (.tuple #[.slice (some ⟨w0.heap.size, 0, none⟩) 1 1, .int .i64 0])) (w0.alloc (.cells x 37)) := ⟨_, rfl, hO, (Chg.refl _ _).alloc _⟩
  have HF := Lib.hid hfin
  clear hO hfin hr hI hcap
  rw [show [x].length = 1 from rfl]
  go_enter Tryd.func7, Tryd.ntmps7
  go_wp2_with (go_at_call 21; refine hpf.mono ?_; rintro e w1 ⟨rfl, hw1⟩; obtain rfl : w0 = w1 := hw1.symm)
  go_ret2
  exact HF.out
set_option maxRecDepth 100000 in
theorem r6grow_refuses (wd : Int) (w : World) (lv : Value) (ls : List (Array Value)) (hc : HsIs w lv ls) (hlen : ls.length ≤ 65536) (hp : popc ls.length ≠ 1) : Calls Tryd.prog 7 #[.int .i64 wd, lv] w (Res w [] (.tuple #[.slice none 0 0, .int .i64 70])) := by
  obtain ⟨w0, rfl⟩ : ∃ w0 : World, w0 = w := ⟨_, rfl⟩
  obtain ⟨hI, a, cap, rfl, hr⟩ := hc
  have hpf := perf_calls ls.length hlen w0
  rw [decide_eq_false hp] at hpf
  clear hr hI hp
  generalize ls.length = n at *
  go_enter Tryd.func7, Tryd.ntmps7
  go_wp2_with (go_at_call 21; refine hpf.mono ?_; rintro e w1 ⟨rfl, hw1⟩; obtain rfl : w0 = w1 := hw1.symm)
  go_ret2
  exact ⟨rfl, Chg.refl _ _⟩
set_option maxRecDepth 100000 in
set_option maxHeartbeats 8000000 in
theorem r6grow_half (wd : Int) (N : Nat) (hN1 : 0 < N) (hN : N ≤ 32768) (w : World) (lv : Value) (ls : List (Array Value)) (hc : HsC w lv ls) (hl : ls.length = 2 * N) (hp : popc (2 * N) = 1) (L R X : List (Array Value)) (q : Nat) (hq : q < 1000000) (hL : L.length = q + 1) (hR : R.length = q + 1)
    (x y : Array Value) (hx : L[q]? = some x) (hy : R[q]? = some y) (hX : X = L ++ R ++ [nodeA wd x y])
    (ih1 : ∀ (w : World) (lv : Value), HsC w lv (ls.take N) → Calls Tryd.prog 7 #[.int .i64 wd, lv] w (R6P w L))
    (ih2 : ∀ (w : World) (lv : Value), HsC w lv (ls.drop N) → Calls Tryd.prog 7 #[.int .i64 wd, lv] w (R6P w R)) :
    Calls Tryd.prog 7 #[.int .i64 wd, lv] w (R6P w X) := by
  obtain ⟨w0, rfl⟩ : ∃ w0 : World, w0 = w := ⟨_, rfl⟩
  obtain ⟨pb, po, cap, rfl⟩ : ∃ pb po cap, lv = .slice (some ⟨pb, po, none⟩) (2 * N) cap := by
    obtain ⟨⟨hI, a, cap, h1, hr⟩, _⟩ := hc
    rcases hr with hr | ⟨b, o, rfl, _⟩
    · rw [hr] at hl; simp at hl; omega
    · exact ⟨b, o, cap, by rw [h1, hl]⟩
  obtain ⟨hcp, hcp2⟩ := hc.2 _ _ _ rfl
  have hcT := hc.takeC N (by omega)
  have hcD := hc.dropC N (by omega)
  have hi1 := ih1 w0 _ hcT
  have hi2 := fun (W : World) (hW : Chg [] w0 W) => ih2 W _ (hcD.chg0 hW)
  have hpf := perf_calls (2 * N) (by omega) w0
  rw [hp] at hpf
  have hlc : ¬ cap = N := by omega
  have hbe : (((2 * N : Nat) : Int) == 1) = false := by rw [beq_eq_false_iff_ne]; omega
  have hbe2 : ((2 * (N : Int)) == 1) = false := by rw [beq_eq_false_iff_ne]; omega
  have HI1 := Lib.hid hi1
  have HI2 := Lib.hid hi2
  have HX := Lib.hid hX
  have HLx := Lib.hid hx
  have HLy := Lib.hid hy
  have HL := Lib.hid hL
  have HR := Lib.hid hR
  clear hcT hcD hi1 hi2 ih1 ih2 hp hc hl hX hx hy hL hR
  go_enter Tryd.func7, Tryd.ntmps7
  go_wp2_with (go_at_call 21; refine hpf.mono ?_; rintro e w1 ⟨rfl, hw1⟩; obtain rfl : w0 = w1 := hw1.symm)
  go_at_call 7
  refine HI1.out.mono ?_
  rintro e w1 ⟨v1, rfl, hO1, hc1⟩
  obtain ⟨a1, cap1, rfl, hr1⟩ := hO1.rowsN
  obtain ⟨g1, rfl, hg1, hB1, hw1⟩ := hr1 q (by rw [HL.out]; omega)
  rw [HL.out]
  go_wp2_with fail
  go_at_call 7
  refine (HI2.out w1 hc1).mono ?_
  rintro e w2 ⟨v2, rfl, hO2, hc2⟩
  obtain ⟨a2, cap2, rfl, hr2⟩ := hO2.rowsN
  obtain ⟨g2, rfl, hg2, hB2, hw2⟩ := hr2 q (by rw [HR.out]; omega)
  rw [HR.out]
  have hc02 := hc1.nil_trans hc2
  have hIx : IsHash x := hO1.2 x (List.mem_of_getElem? HLx.out)
  have hIy : IsHash y := hO2.2 y (List.mem_of_getElem? HLy.out)
  have ex : L[q]'(by rw [HL.out]; omega) = x := by have := HLx.out; rw [List.getElem?_eq_getElem (by rw [HL.out]; omega)] at this; exact Option.some.inj this
  have ey : R[q]'(by rw [HR.out]; omega) = y := by have := HLy.out; rw [List.getElem?_eq_getElem (by rw [HR.out]; omega)] at this; exact Option.some.inj this
  rw [ex] at hw1
  rw [ey] at hw2
  have k0 : Chg [] w2 (w2.alloc (.cells #[] 37)) := (Chg.refl _ _).alloc _
  have hE := HOwn.empty w2 w2.heap.size (Nat.le_refl _)
  obtain ⟨v3, w3, hra, hO3, hc3, hb3⟩ := hE.append ((hO1.hs.chg0 hc2).chg0 k0) (by rw [HL.out]; simp; omega) (by simp) 22
  rw [List.nil_append] at hO3
  have k3 : Chg [] w2 w3 := k0.trans hc3 (fun k hk => .inr (by rw [ob_some] at hk; simp at hk; omega))
  obtain ⟨v4, w4, hrb, hO4, hc4, hb4⟩ := hO3.append (hO2.hs.chg0 k3) (by rw [HL.out, HR.out]; omega) k3.size 22
  have hol := own_lt hO3.1
  have k4 : Chg [] w2 w4 := k3.trans hc4 (fun k hk => .inr (hol k hk).1)
  have hra2 : (apG #[22, 22] 22 #[.slice (some ⟨w2.heap.size, 0, none⟩) 0 0, .slice (some ⟨g1, 0, none⟩) (q + 1) cap1]).run Tryd.prog (w2.alloc (.cells #[] 37)) = .ok v3 w3 := by rw [← HL.out]; exact hra
  have hrb2 : (apG #[22, 22] 22 #[v3, .slice (some ⟨g2, 0, none⟩) (q + 1) cap2]).run Tryd.prog w3 = .ok v4 w4 := by rw [← HR.out]; exact hrb
  obtain ⟨a4, cap4, rfl, _⟩ := hO4.rowsN
  obtain ⟨a3, cap3, rfl, _⟩ := hO3.rowsN
  rw [HL.out] at hrb2
  rw [List.length_append, HL.out, HR.out] at hrb2
  have hw1' := rng?_chg (hc2.nil_trans k4) hw1 (by omega) (by simp)
  have hw2' := rng?_chg k4 hw2 (by omega) (by simp)
  rw [HL.out] at hra2
  have HO4 := Lib.hid hO4
  have K4 := Lib.hid k4
  clear hra hrb hr1 hr2 hE k0 hO3 hb3 hc3 hO4 hb4 hc4 k3 hol k4 hO1 hO2 hpf ex ey hw1 hw2
  go_upto_region 10 with (fail)
  have hzI := nodeA_is wd hIx hIy
  have hno := fun W => r2nodeA_calls W wd hIx hIy
  have hXX := HX.out
  have hlx := hIx.1
  have hly := hIy.1
  obtain ⟨z, hz⟩ : ∃ z, nodeA wd x y = z := ⟨_, rfl⟩
  rw [hz] at hzI hno hXX
  have HNO := Lib.hid hno
  have HXX := Lib.hid hXX
  clear HX hno hXX hz HLx HLy
  obtain ⟨xl, hxl⟩ : ∃ xl : List Value, x = xl.toArray := ⟨x.toList, Array.toArray_toList.symm⟩
  obtain ⟨yl, hyl⟩ : ∃ yl : List Value, y = yl.toArray := ⟨y.toList, Array.toArray_toList.symm⟩
  subst hxl hyl
  have hu1 : Tryd.prog.underlying 37 = _ := u_Hash
  have hi1 : (Tryd.prog.info? 37).map (·.size) = some xl.length := by rw [show xl.length = 32 from by simpa using hlx]; kernel_rfl
  have hi2 : (Tryd.prog.info? 37).map (·.size) = some yl.length := by rw [show yl.length = 32 from by simpa using hly]; kernel_rfl
  have hS : ∀ W, Chg [] w4 W → W.rangeAt g1 (q * 32) xl ∧ W.rangeAt g2 (q * 32) yl := fun W hW => ⟨rng?_range (rng?_chg hW hw1' (by have := (hc2.nil_trans K4.out).size; omega) (by simp)), rng?_range (rng?_chg hW hw2' (by have := K4.out.size; omega) (by simp))⟩
  have hcd : Chg [] w4 w4.drew := (Chg.refl _ _).drew
  have hpush := fun (W : World) (hW : Chg [] w4 W) => HOwn.push (HO4.out.chg hW (by simp)) z hzI (by rw [List.length_append, HL.out, HR.out]; omega) (by have := K4.out.size; have := hW.size; omega) 22
  rw [List.length_append, HL.out, HR.out] at hpush
  have hfar : ∀ k ∈ ob (.slice a4 (L ++ R).length cap4), w2.heap.size ≤ k := fun k hk => (own_lt HO4.out.1 k hk).1
  rw [List.length_append, HL.out, HR.out] at hfar
  have z1 := hzI.1
  have z2 := hzI.one
  have q0 : (0 : Int) ≤ (q : Int) := by omega
  have q1 : (((q + 1 : Nat) : Int)) - 1 = (q : Int) := by omega
  have qb : (q : Int) < 1000000 := by omega
  have hq2 : ((q : Int) + 1) - 1 = (q : Int) := by omega
  have qw : IntKind.i64.wrap (q : Int) = (q : Int) := IntWalk.i64_in _ (by omega)
  have qlt : (q : Int) < (q : Int) + 1 := by omega
  have HS := Lib.hid hS
  have HP := Lib.hid hpush
  have HFAR := Lib.hid hfar
  have HC0 := Lib.hid hc02
  have HW1 := Lib.hid hw1'
  have HW2 := Lib.hid hw2'
  clear hS hpush hfar hw1' hw2' hIx hIy hzI hc02 hra2 hrb2 hlx hly
  refine wp_region_noPanic ?_
  refine wp_region_held_drew (S := (fun W => W.rangeAt g1 (q * 32) xl ∧ W.rangeAt g2 (q * 32) yl)) (by kernel_rfl) (by exact HS.out _ hcd) (fun hHeld => ?_)
  have hHeldX := hHeld
  refine wpAnyH_take (i := 0) (v := ?_) rfl (by kernel_rfl) (by kernel_rfl) (by kernel_rfl) (fun _ _ _ h => h) (Or.inl ⟨by rfl, ?_⟩) (by first | assumption | exact hHeldX) ?_
  rotate_left
  · intro w hSw
    (try dsimp only at hSw)
    go_simp
    try with_reducible rfl
  try simp only [List.getElem_toArray, List.getElem_cons_zero, List.getElem_cons_succ, Act.put, List.setIfInBounds_toArray, List.set_cons_zero, List.set_cons_succ]
  refine wpAnyH_take (i := 1) (v := ?_) rfl (by kernel_rfl) (by kernel_rfl) (by kernel_rfl) (fun _ _ _ h => h) (Or.inl ⟨by rfl, ?_⟩) (by first | assumption | exact hHeldX) ?_
  rotate_left
  · intro w hSw
    (try dsimp only at hSw)
    go_simp
    try with_reducible rfl
  try simp only [List.getElem_toArray, List.getElem_cons_zero, List.getElem_cons_succ, Act.put, List.setIfInBounds_toArray, List.set_cons_zero, List.set_cons_succ]
  refine wpAnyH_take (i := 2) (v := ?_) rfl (by kernel_rfl) (by kernel_rfl) (by kernel_rfl) (fun _ _ _ h => h) (Or.inl ⟨by rfl, ?_⟩) (by first | assumption | exact hHeldX) ?_
  rotate_left
  · intro w hSw
    (try dsimp only at hSw)
    go_simp
    try with_reducible rfl
  try simp only [List.getElem_toArray, List.getElem_cons_zero, List.getElem_cons_succ, Act.put, List.setIfInBounds_toArray, List.set_cons_zero, List.set_cons_succ]
  refine wpAnyH_take (i := 3) (v := ?_) rfl (by kernel_rfl) (by kernel_rfl) (by kernel_rfl) (fun _ _ _ h => h) (Or.inl ⟨by rfl, ?_⟩) (by first | assumption | exact hHeldX) ?_
  rotate_left
  · intro w hSw
    (try dsimp only at hSw)
    go_simp
    try with_reducible rfl
  try simp only [List.getElem_toArray, List.getElem_cons_zero, List.getElem_cons_succ, Act.put, List.setIfInBounds_toArray, List.set_cons_zero, List.set_cons_succ]
  refine wpAnyH_take (i := 4) (v := ?_) rfl (by kernel_rfl) (by kernel_rfl) (by kernel_rfl) (fun _ _ _ h => h) (Or.inl ⟨by rfl, ?_⟩) (by first | assumption | exact hHeldX) ?_
  rotate_left
  · intro w hSw
    (try dsimp only at hSw)
    go_simp
    try with_reducible rfl
  try simp only [List.getElem_toArray, List.getElem_cons_zero, List.getElem_cons_succ, Act.put, List.setIfInBounds_toArray, List.set_cons_zero, List.set_cons_succ]
  refine wpAnyH_take (i := 5) (v := ?_) rfl (by kernel_rfl) (by kernel_rfl) (by kernel_rfl) (fun _ _ _ h => h) (Or.inl ⟨by rfl, ?_⟩) (by first | assumption | exact hHeldX) ?_
  rotate_left
  · intro w hSw
    (try dsimp only at hSw)
    go_simp
    try with_reducible rfl
  try simp only [List.getElem_toArray, List.getElem_cons_zero, List.getElem_cons_succ, Act.put, List.setIfInBounds_toArray, List.set_cons_zero, List.set_cons_succ]
  refine wpAnyH_take (i := 6) (v := ?_) rfl (by kernel_rfl) (by kernel_rfl) (by kernel_rfl) (fun _ _ _ h => h) (Or.inl ⟨by rfl, ?_⟩) (by first | assumption | exact hHeldX) ?_
  rotate_left
  · intro w hSw
    (try dsimp only at hSw)
    go_simp
    try with_reducible rfl
  try simp only [List.getElem_toArray, List.getElem_cons_zero, List.getElem_cons_succ, Act.put, List.setIfInBounds_toArray, List.set_cons_zero, List.set_cons_succ]
  refine' wpAnyH_take (i := 7) (v := _) rfl (by kernel_rfl) (by kernel_rfl) (by kernel_rfl) (fun _ _ _ h => h) (yieldsIf_load_mid (by rfl) _ _ rfl _ _ rfl _ _ ?hSz7 ?huz7 ?hdz7 ?hiz7) (by first | assumption | exact hHeldX) ?restz7
  case hSz7 => (intro w hSw; (try dsimp only at hSw); obtain ⟨_, _⟩ := hSw; assumption)
  case huz7 => assumption
  case hdz7 => rfl
  case hiz7 => assumption
  case' restz7 => skip
  try simp only [List.getElem_toArray, List.getElem_cons_zero, List.getElem_cons_succ, Act.put, List.setIfInBounds_toArray, List.set_cons_zero, List.set_cons_succ]
  refine wpAnyH_take (i := 8) (v := ?_) rfl (by kernel_rfl) (by kernel_rfl) (by kernel_rfl) (fun _ _ _ h => h) (Or.inl ⟨by rfl, ?_⟩) (by first | assumption | exact hHeldX) ?_
  rotate_left
  · intro w hSw
    (try dsimp only at hSw)
    go_simp
    try with_reducible rfl
  try simp only [List.getElem_toArray, List.getElem_cons_zero, List.getElem_cons_succ, Act.put, List.setIfInBounds_toArray, List.set_cons_zero, List.set_cons_succ]
  refine wpAnyH_take (i := 9) (v := ?_) rfl (by kernel_rfl) (by kernel_rfl) (by kernel_rfl) (fun _ _ _ h => h) (Or.inl ⟨by rfl, ?_⟩) (by first | assumption | exact hHeldX) ?_
  rotate_left
  · intro w hSw
    (try dsimp only at hSw)
    go_simp
    try with_reducible rfl
  try simp only [List.getElem_toArray, List.getElem_cons_zero, List.getElem_cons_succ, Act.put, List.setIfInBounds_toArray, List.set_cons_zero, List.set_cons_succ]
  refine wpAnyH_take (i := 10) (v := ?_) rfl (by kernel_rfl) (by kernel_rfl) (by kernel_rfl) (fun _ _ _ h => h) (Or.inl ⟨by rfl, ?_⟩) (by first | assumption | exact hHeldX) ?_
  rotate_left
  · intro w hSw
    (try dsimp only at hSw)
    go_simp
    try with_reducible rfl
  try simp only [List.getElem_toArray, List.getElem_cons_zero, List.getElem_cons_succ, Act.put, List.setIfInBounds_toArray, List.set_cons_zero, List.set_cons_succ]
  refine wpAnyH_take (i := 11) (v := ?_) rfl (by kernel_rfl) (by kernel_rfl) (by kernel_rfl) (fun _ _ _ h => h) (Or.inl ⟨by rfl, ?_⟩) (by first | assumption | exact hHeldX) ?_
  rotate_left
  · intro w hSw
    (try dsimp only at hSw)
    go_simp
    try with_reducible rfl
  try simp only [List.getElem_toArray, List.getElem_cons_zero, List.getElem_cons_succ, Act.put, List.setIfInBounds_toArray, List.set_cons_zero, List.set_cons_succ]
  refine wpAnyH_take (i := 12) (v := ?_) rfl (by kernel_rfl) (by kernel_rfl) (by kernel_rfl) (fun _ _ _ h => h) (Or.inl ⟨by rfl, ?_⟩) (by first | assumption | exact hHeldX) ?_
  rotate_left
  · intro w hSw
    (try dsimp only at hSw)
    go_simp
    try with_reducible rfl
  try simp only [List.getElem_toArray, List.getElem_cons_zero, List.getElem_cons_succ, Act.put, List.setIfInBounds_toArray, List.set_cons_zero, List.set_cons_succ]
  refine' wpAnyH_take (i := 13) (v := _) rfl (by kernel_rfl) (by kernel_rfl) (by kernel_rfl) (fun _ _ _ h => h) (yieldsIf_load_mid (by rfl) _ _ rfl _ _ rfl _ _ ?hSz13 ?huz13 ?hdz13 ?hiz13) (by first | assumption | exact hHeldX) ?restz13
  case hSz13 => (intro w hSw; (try dsimp only at hSw); obtain ⟨_, _⟩ := hSw; assumption)
  case huz13 => assumption
  case hdz13 => rfl
  case hiz13 => assumption
  case' restz13 => skip
  try simp only [List.getElem_toArray, List.getElem_cons_zero, List.getElem_cons_succ, Act.put, List.setIfInBounds_toArray, List.set_cons_zero, List.set_cons_succ]
  refine wpAnyH_ready (rs := [14]) (by kernel_rfl) (by simp) ?_
  refine AllReadyH.cons rfl (fun K hK => ?_) ?_
  go_simp
  go_at_call 22; refine (HNO.out _).mono ?_; rintro e w5 ⟨rfl, hc5⟩; have hC5 : Chg [] w4 w5 := hcd.nil_trans hc5
  go_wp2_with fail
  refine hK.out _ _ (by exact HS.out _ hC5) (fun hHeld => ?_)
  clear hK K
  try simp only [List.getElem_toArray, List.getElem_cons_zero, List.getElem_cons_succ, Act.put, List.setIfInBounds_toArray, List.set_cons_zero, List.set_cons_succ]
  rotate_left
  exact AllReadyH.nil
  obtain ⟨v6, w6, hrc, hO6, hc6, hb6⟩ := HP.out w5 hC5
  have hrc2 : (apG #[22, 22] 22 #[.slice a4 (q + 1 + (q + 1)) cap4, .slice (some ⟨w5.heap.size, 0, none⟩) 1 1]).run Tryd.prog (w5.alloc (.cells z 37)) = .ok v6 w6 := hrc
  obtain ⟨a6, cap6, rfl, _⟩ := hO6.rowsN
  have hL6 : (L ++ R ++ [z]).length = q + 1 + (q + 1) + 1 := by rw [List.length_append, List.length_append, HL.out, HR.out]; rfl
  rw [hL6] at hrc2 hO6 hb6
  have g1l : g1 < w2.heap.size := by have := hc2.size; omega
  have hS6 : w6.rangeAt g1 (q * 32) xl ∧ w6.rangeAt g2 (q * 32) yl := by
    have l2 := K4.out.size
    have l5 := hC5.size
    exact ⟨rng?_range (rng?_chg hc6 (rng?_chg hC5 HW1.out (by omega) (by simp)) (by omega) (fun h => by have := HFAR.out _ h; omega)), rng?_range (rng?_chg hc6 (rng?_chg hC5 HW2.out (by omega) (by simp)) (by omega) (fun h => by have := HFAR.out _ h; omega))⟩
  have hfin : R6P w0 X (.returned (.tuple #[.slice a6 (q + 1 + (q + 1) + 1) cap6, .int .i64 0])) w6 := by
    refine ⟨_, rfl, ?_, ?_⟩
    · rw [HXX.out]
      exact ⟨own_mono hO6.1 HC0.out.size, hO6.2⟩
    · exact ((HC0.out.nil_trans K4.out).nil_trans hC5).trans hc6 (fun k hk => .inr (by have := HFAR.out k hk; have := HC0.out.size; omega))
  have HF := Lib.hid hfin
  have hS5 := HS.out _ (hC5.alloc (.cells z 37))
  clear hfin hrc hO6 hc6 hb6 hL6
  refine wpAnyH_ready (rs := [15]) (by kernel_rfl) (by simp) ?_
  refine AllReadyH.cons rfl (fun K hK => ?_) ?_
  go_simp
  skip
  go_wp2_with fail
  refine hK.out _ _ (by exact hS5) (fun hHeld => ?_)
  clear hK K
  try simp only [List.getElem_toArray, List.getElem_cons_zero, List.getElem_cons_succ, Act.put, List.setIfInBounds_toArray, List.set_cons_zero, List.set_cons_succ]
  rotate_left
  exact AllReadyH.nil
  refine wpAnyH_ready (rs := [16]) (by kernel_rfl) (by simp) ?_
  refine AllReadyH.cons rfl (fun K hK => ?_) ?_
  go_simp
  skip
  go_wp2_with fail
  refine hK.out _ _ (by exact hS6) (fun hHeld => ?_)
  clear hK K
  try simp only [List.getElem_toArray, List.getElem_cons_zero, List.getElem_cons_succ, Act.put, List.setIfInBounds_toArray, List.set_cons_zero, List.set_cons_succ]
  rotate_left
  exact AllReadyH.nil
  refine wpAnyH_take (i := 17) (v := ?_) rfl (by kernel_rfl) (by kernel_rfl) (by kernel_rfl) (fun _ _ _ h => h) (Or.inl ⟨by rfl, ?_⟩) (by first | assumption | exact hHeldX) ?_
  rotate_left
  · intro w hSw
    (try dsimp only at hSw)
    go_simp
    try with_reducible rfl
  try simp only [List.getElem_toArray, List.getElem_cons_zero, List.getElem_cons_succ, Act.put, List.setIfInBounds_toArray, List.set_cons_zero, List.set_cons_succ]
  refine wpAnyH_take (i := 18) (v := ?_) rfl (by kernel_rfl) (by kernel_rfl) (by kernel_rfl) (fun _ _ _ h => h) (Or.inl ⟨by rfl, ?_⟩) (by first | assumption | exact hHeldX) ?_
  rotate_left
  · intro w hSw
    (try dsimp only at hSw)
    go_simp
    try with_reducible rfl
  try simp only [List.getElem_toArray, List.getElem_cons_zero, List.getElem_cons_succ, Act.put, List.setIfInBounds_toArray, List.set_cons_zero, List.set_cons_succ]
  refine wpAnyH_done (by kernel_rfl) ?_ _
  refine NoPanic.normal ?_
  go_wp2
  go_ret2
  exact HF.out
theorem r6grow_pow (wd : Int) : ∀ (h : Nat), h ≤ 16 → ∀ (w : World) (lv : Value) (ls : List (Array Value)), HsC w lv ls → ls.length = 2 ^ h → Calls Tryd.prog 7 #[.int .i64 wd, lv] w (R6P w (rgL wd h ls))
  | 0, _, w, lv, ls, hc, hl => by
    obtain ⟨x, rfl⟩ : ∃ x, ls = [x] := List.length_eq_one_iff.1 hl
    exact r6grow_one wd w lv x hc
  | h + 1, hh, w, lv, ls, hc, hl => by
    have hN1 := Nat.two_pow_pos h
    have hNl : 2 ^ h ≤ 32768 := by
      have : 2 ^ h ≤ 2 ^ 15 := Nat.pow_le_pow_right (by omega) (by omega)
      exact this
    have hpop : popc (2 * 2 ^ h) = 1 := by
      have := popc_2pow (h + 1)
      rwa [Nat.pow_succ, Nat.mul_comm] at this
    rw [Nat.pow_succ, Nat.mul_comm] at hl
    have hlt : (ls.take (2 ^ h)).length = 2 ^ h := by rw [List.length_take]; omega
    have hld : (ls.drop (2 ^ h)).length = 2 ^ h := by rw [List.length_drop]; omega
    have hLl : (rgL wd h (ls.take (2 ^ h))).length = 2 * 2 ^ h - 1 := by
      have : (rgL wd h (ls.take (2 ^ h))).length = _ := (rg_forest wd h _ hlt).n
      rw [this, hlt, nodes_2pow]
    have hRl : (rgL wd h (ls.drop (2 ^ h))).length = 2 * 2 ^ h - 1 := by
      have : (rgL wd h (ls.drop (2 ^ h))).length = _ := (rg_forest wd h _ hld).n
      rw [this, hld, nodes_2pow]
    have i1 := fun W v hW => r6grow_pow wd h (by omega) W v _ hW hlt
    have i2 := fun W v hW => r6grow_pow wd h (by omega) W v _ hW hld
    have hX : rgL wd (h + 1) ls = _ := rfl
    rw [rgL]
    generalize rgL wd h (ls.take (2 ^ h)) = L at *
    generalize rgL wd h (ls.drop (2 ^ h)) = R at *
    have hq : 2 * 2 ^ h - 1 = (2 * 2 ^ h - 2) + 1 := by omega
    refine r6grow_half wd (2 ^ h) hN1 hNl w lv ls hc hl hpop L R _ (2 * 2 ^ h - 2) (by omega) (by omega) (by omega) (L.getD (L.length - 1) zeroHash) (R.getD (R.length - 1) zeroHash) ?_ ?_ rfl i1 i2
    · rw [List.getD_eq_getElem?_getD, hLl, hq, Nat.add_sub_cancel, List.getElem?_eq_getElem (by omega)]
      rfl
    · rw [List.getD_eq_getElem?_getD, hRl, hq, Nat.add_sub_cancel, List.getElem?_eq_getElem (by omega)]
      rfl
end Go.Proofs.YtnodjlgihhinpaaDoor

/- A find: which hashes stand twice (plain); the comparison of the sort. -/
import Derived.Test.YtonppfebmeehcaaFdF
import Derived.Test.YtonppfebmeehcaaSrtK
import Derived.Shelf.SlSortCmp.InsertionK
namespace Go.Proofs.Ytonppfebmeehcaa
open Go.RowKit Go.Shelf Go.Sort
set_option linter.unusedVariables false
set_option linter.unusedSimpArgs false

/-- The first index at which a hash stands. -/
def fstN (k : HK) (ls : List HK) : Nat := (idxOf k ls).headD 0
theorem fstN_at {k : HK} {ls : List HK} (h : k ∈ ls) : ls[fstN k ls]? = some k ∧ fstN k ls < ls.length := by
  have hp := idx_of_mem h
  have hm : fstN k ls ∈ idxOf k ls := by
    unfold fstN
    cases hq : idxOf k ls with
    | nil => rw [hq] at hp; simp at hp
    | cons x l => simp
  unfold idxOf at hm
  rw [List.mem_filter] at hm
  exact ⟨by simpa using hm.2, by simpa using hm.1⟩
theorem fstN_inj {k k' : HK} {ls : List HK} (h : k ∈ ls) (h' : k' ∈ ls) (e : fstN k ls = fstN k' ls) : k = k' := by
  have h1 := (fstN_at h).1
  have h2 := (fstN_at h').1
  rw [e, h2] at h1
  exact (Option.some.inj h1).symm
theorem idx_sorted (k : HK) (ls : List HK) : (idxOf k ls).Pairwise (· < ·) := by
  unfold idxOf
  exact List.Pairwise.filter _ (List.pairwise_lt_range)
/-- Those that stand twice, as they come. -/
def tw1 (ls : List HK) (i : Nat) : Option HK := match ls[i]? with
  | some k => if fstN k ls = i ∧ 1 < (idxOf k ls).length then some k else none
  | none => none
def twiceL (ls : List HK) : List HK := (List.range ls.length).filterMap (tw1 ls)
theorem tw1_some {ls : List HK} {i : Nat} {k : HK} (h : tw1 ls i = some k) : ls[i]? = some k ∧ fstN k ls = i ∧ 1 < (idxOf k ls).length := by
  unfold tw1 at h
  split at h
  · rename_i x hx
    split at h
    · rename_i hc
      have : x = k := by simpa using h
      subst this
      exact ⟨hx, hc.1, hc.2⟩
    · cases h
  · cases h
theorem mem_twice {ls : List HK} {k : HK} : k ∈ twiceL ls ↔ k ∈ ls ∧ 1 < (idxOf k ls).length := by
  unfold twiceL
  rw [List.mem_filterMap]
  constructor
  · rintro ⟨i, _, h⟩
    obtain ⟨h1, h2, h3⟩ := tw1_some h
    exact ⟨List.mem_iff_getElem?.2 ⟨i, h1⟩, h3⟩
  · rintro ⟨h1, h2⟩
    obtain ⟨a, b⟩ := fstN_at h1
    exact ⟨fstN k ls, by simpa using b, by unfold tw1; rw [a]; simp [h2]⟩
theorem twice_up (ls : List HK) : (twiceL ls).Pairwise (fun a b => fstN a ls < fstN b ls) := by
  unfold twiceL
  rw [List.pairwise_filterMap]
  refine List.Pairwise.imp ?_ (List.pairwise_lt_range)
  intro i j hij a ha b hb
  rw [(tw1_some ha).2.1, (tw1_some hb).2.1]
  exact hij
theorem twice_nodup (ls : List HK) : (twiceL ls).Nodup := (twice_up ls).imp (fun h e => by subst e; omega)
theorem twice_unique {ls l : List HK} (hn : l.Nodup) (hm : ∀ k, k ∈ l ↔ k ∈ ls ∧ 1 < (idxOf k ls).length) (hs : l.Pairwise (fun a b => fstN a ls ≤ fstN b ls)) : l = twiceL ls := by
  refine List.Perm.eq_of_pairwise (le := fun a b => fstN a ls ≤ fstN b ls) (fun a b ha hb h1 h2 => fstN_inj ((hm a).1 ha).1 (mem_twice.1 hb).1 (by omega)) hs ((twice_up ls).imp (fun h => by omega)) ?_
  rw [List.perm_ext_iff_of_nodup hn (twice_nodup ls)]
  intro k
  rw [hm, mem_twice]

def cmpN (a b : Nat) : Int := if a < b then -1 else if b < a then 1 else 0
set_option maxRecDepth 100000 in
theorem cmp_calls (a b : Nat) (ha : a < 18446744073709551616) (hb : b < 18446744073709551616) (w : World) : Calls Try.prog 65 #[.int .u64 a, .int .u64 b] w fun e w' => e = .returned (.int .i64 (cmpN a b)) ∧ w' = w := by
  have hnan : ∀ (x : Nat) (W : World), Calls Try.prog 81 #[.int .u64 x] W fun e w' => e = .returned (.bool false) ∧ w' = W := by
    intro x W
    go_enter Try.func81, Try.ntmps81
    go_wp2
    go_ret
    exact ⟨rfl, rfl⟩
  rcases Nat.lt_trichotomy a b with h | h | h
  · have hc := Lib.hid (show cmpN a b = -1 from if_pos h)
    have h2 : ¬ b < a := by omega
    go_enter Try.func65, Try.ntmps65
    go_wp2_with (go_at_call 81; refine (hnan _ _).mono ?_; rintro e w1 ⟨rfl, hw1⟩; obtain rfl : w = w1 := hw1.symm)
    go_ret
    exact ⟨by rw [hc.out]; rfl, rfl⟩
  · subst h
    have hc := Lib.hid (show cmpN a a = 0 from by unfold cmpN; rw [if_neg (by omega), if_neg (by omega)])
    go_enter Try.func65, Try.ntmps65
    go_wp2_with (go_at_call 81; refine (hnan _ _).mono ?_; rintro e w1 ⟨rfl, hw1⟩; obtain rfl : w = w1 := hw1.symm)
    go_ret
    exact ⟨by rw [hc.out]; rfl, rfl⟩
  · have hc := Lib.hid (show cmpN a b = 1 from by unfold cmpN; rw [if_neg (by omega), if_pos h])
    have h2 : ¬ a < b := by omega
    go_enter Try.func65, Try.ntmps65
    go_wp2_with (go_at_call 81; refine (hnan _ _).mono ?_; rintro e w1 ⟨rfl, hw1⟩; obtain rfl : w = w1 := hw1.symm)
    go_ret
    exact ⟨by rw [hc.out]; rfl, rfl⟩
theorem head0 : ∀ (l : List Nat) (h : 0 < l.length), l[0] = l.headD 0
  | x :: l, _ => rfl
/-- A hash's own list of indices. -/
theorem FdIs.ent {w : World} {b : Nat} {f : FS} (h : FdIs w b f) {k : HK} (hk : k ∈ f.ls) : ∃ g n c, (∀ W, Chg [] w W → (luY 70 (.map (some f.m)) (.agg k.1) false).run Try.prog W = .ok (.slice (some ⟨g, 0, none⟩) n c) W) ∧ 0 < n ∧ n = (idxOf k f.ls).length ∧ g < w.heap.size ∧ w.cell? ⟨g, 0, none⟩ = some (.int .u64 (fstN k f.ls : Nat)) := by
  obtain ⟨v, hv⟩ := Option.isSome_iff_exists.1 (h.has k hk)
  have hU := (h.val k v (mget_mem hv)).1
  obtain ⟨a, c, rfl⟩ := hU.shapeU
  have hp := idx_of_mem hk
  obtain ⟨_, g, rfl, hg, hc⟩ := hU.cellU hp
  refine ⟨g, _, c, fun W hW => ?_, hp, rfl, hg, ?_⟩
  · have := (h.chg0 hW).look k
    rw [hv] at this
    exact this
  · rw [hc]
    unfold fstN
    rw [head0 _ hp]
attribute [local go_sem ↓] hold_luY
set_option maxRecDepth 100000 in
set_option maxHeartbeats 2000000 in
theorem tw1_calls (W : World) (B b : Nat) (f : FS) (hB : W.cell? ⟨B, 0, none⟩ = some (.pointer (some ⟨b, 0, none⟩))) (h : FdIs W b f) (hl : f.ls.length ≤ 100000) (x y : HK) (hx : x ∈ f.ls) (hy : y ∈ f.ls) :
    Calls Try.prog 64 #[.agg x.1, .agg y.1, .pointer (some ⟨B, 0, none⟩)] W fun e w' => e = .returned (.int .i64 (cmpN (fstN x f.ls) (fstN y f.ls))) ∧ ∃ q os', w' = grow (W.drewN q) os' := by
  have hA : Chg [] W ((W.alloc (.cells x.1 30)).alloc (.cells y.1 30)) := ((Chg.refl _ _).alloc _).alloc _
  obtain ⟨gx, nx, cx, lx, px, _, qx, kx⟩ := h.ent hx
  obtain ⟨gy, ny, cy, ly, py, _, qy, ky⟩ := h.ent hy
  have fx := (fstN_at hx).2
  have fy := (fstN_at hy).2
  have hBl := World.block_lt_of_cell? _ _ hB
  have hb := blk_lt h.mem
  have hc1 : W.cell? ⟨b, 1, none⟩ = some (.map (some f.m)) := blk_cell h.mem 1 rfl
  have hcmp := fun W' => cmp_calls (fstN x f.ls) (fstN y f.ls) (by omega) (by omega) W'
  have l1 := fun n => lx _ (hA.drewN n)
  have l2 := fun n => ly _ (hA.drewN n)
  have xs := x.2.1
  have xo := x.2.one
  have ys := y.2.1
  have yo := y.2.one
  have b1 := rng?_chg ((Chg.refl [] (W.alloc (.cells x.1 30))).alloc (.cells y.1 30)) (rng?_alloc_at W W.heap.size 32 x.1 30 rfl xs) (by omega) (by simp)
  have b2 := rng?_alloc_at (W.alloc (.cells x.1 30)) (W.alloc (.cells x.1 30)).heap.size 32 y.1 30 rfl ys
  rw [World.size_alloc] at b2
  have a1 : ((W.alloc (.cells x.1 30)).alloc (.cells y.1 30)).cell? ⟨B, 0, none⟩ = some (.pointer (some ⟨b, 0, none⟩)) := by rw [hA.cell (p := ⟨B, 0, none⟩) hBl (by simp)]; exact hB
  have a2 : ((W.alloc (.cells x.1 30)).alloc (.cells y.1 30)).cell? ⟨b, 1, none⟩ = some (.map (some f.m)) := by rw [hA.cell (p := ⟨b, 1, none⟩) hb (by simp)]; exact hc1
  have a3 : ((W.alloc (.cells x.1 30)).alloc (.cells y.1 30)).cell? ⟨gx, 0, none⟩ = some (.int .u64 (fstN x f.ls : Nat)) := by rw [hA.cell (p := ⟨gx, 0, none⟩) qx (by simp)]; exact kx
  have a4 : ((W.alloc (.cells x.1 30)).alloc (.cells y.1 30)).cell? ⟨gy, 0, none⟩ = some (.int .u64 (fstN y f.ls : Nat)) := by rw [hA.cell (p := ⟨gy, 0, none⟩) qy (by simp)]; exact ky
  obtain ⟨W2, hW2⟩ : ∃ W2, (W.alloc (.cells x.1 30)).alloc (.cells y.1 30) = W2 := ⟨_, rfl⟩
  have HW2 := Lib.hid hW2
  simp only [hW2] at l1 l2
  rw [hW2] at b1 b2 a1 a2 a3 a4
  clear h hA lx ly kx ky hB hc1 hx hy hW2 fx fy
  generalize fstN x f.ls = fx at *
  generalize fstN y f.ls = fy at *
  generalize cmpN fx fy = cc at *
  go_enter Try.func64, Try.ntmps64
  go_upto_region 1 with (fail)
  rw [HW2.out]
  go_quiet ((go_at_call 65; exact Calls.quiet_of_same (hcmp _)))
  go_wp2
  go_ret
  refine ⟨rfl, nq, #[.cells x.1 30, .cells y.1 30], ?_⟩
  rw [← HW2.out, alloc_eq_grow, alloc_eq_grow, grow_grow]
  rfl
end Go.Proofs.Ytonppfebmeehcaa

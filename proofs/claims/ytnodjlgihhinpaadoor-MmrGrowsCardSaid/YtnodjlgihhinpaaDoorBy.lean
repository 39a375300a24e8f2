/- Bytes that a call owns; slices of bytes put one behind the other. -/
import Derived.Test.YtnodjlgihhinpaaDoorOwn
import Derived.Test.YtnodjlgihhinpaaDoorHaF
import Derived.Lib.AppendZerosOnto
namespace Go.Proofs.YtnodjlgihhinpaaDoor
open Go.RowKit Go.Lib
set_option linter.unusedVariables false
set_option linter.unusedSimpArgs false

/-- A row of bytes of the call's own. -/
def BOwn (w : World) (B : Nat) (v : Value) (l : List Nat) : Prop := w.ownsRow B 5 1 v l.length (l.map fun (n : Nat) => Value.int .u8 (n : Int))
theorem BOwn.nil (w : World) (B : Nat) : BOwn w B (.slice none 0 0) [] := own_nil _ _ _ _
theorem BOwn.bs {w : World} {B : Nat} {v : Value} {l : List Nat} (h : BOwn w B v l) (hb : ∀ x ∈ l, x < 256) : BsIs w v l := by
  refine ⟨hb, ?_⟩
  rcases h.2 with ⟨rfl, h0⟩ | ⟨g, cap, cur, rfl, hb, hh, hnc, hm, hcs, ht⟩
  · have : l = [] := List.eq_nil_of_length_eq_zero h0
    subst this
    exact ⟨none, 0, rfl, Nat.le_refl _, Nat.zero_le _, .inl rfl⟩
  · refine ⟨_, cap, rfl, hnc, hm, .inr ⟨g, 0, rfl, blk_lt hh, fun i hi => ?_⟩⟩
    rw [Nat.zero_add]
    refine blk_cell hh i ?_
    have e : (l.map fun (n : Nat) => Value.int .u8 (n : Int))[i]? = some (.int .u8 (l[i] : Nat)) := by simp [hi]
    rw [← ht, List.getElem?_take] at e
    split at e
    · simpa using e
    · cases e
theorem BOwn.off {w : World} {B : Nat} {v : Value} {l : List Nat} (h : BOwn w B v l) {k : Nat} (hk : k < B) : OffB v k := by
  intro a n c e hn
  rcases h.2 with ⟨rfl, h0⟩ | ⟨g, cap, cur, rfl, hb, hh, _⟩
  · cases e
  · simp at e
    rw [← e.1]
    show g ≠ k
    omega
theorem BsIs.rd {w : World} {A : Option Addr} {n c : Nat} {l : List Nat} (h : BsIs w (.slice A n c) l) : Rd w 1 A l.length (l.map fun (n : Nat) => Value.int .u8 (n : Int)) := by
  obtain ⟨h1, a, cap, hv, h2, h3, h4⟩ := h
  injection hv with hA
  refine ⟨by simp, fun hn => ?_⟩
  rcases h4 with h4 | ⟨b, o, ha, hb, hr⟩
  · subst h4; simp at hn
  · refine ⟨b, o, hA.trans ha, fun j u hu => ?_⟩
    rw [List.getElem?_map] at hu
    obtain ⟨x, hx, rfl⟩ := Option.map_eq_some_iff.1 hu
    obtain ⟨hj, rfl⟩ := List.getElem?_eq_some_iff.1 hx
    exact hr j hj
theorem BsIs.append {w : World} {B : Nat} {v s : Value} {l m : List Nat} (h : BOwn w B v l) (hs : BsIs w s m) (hlen : l.length + m.length ≤ 1099511627776) (hB : B ≤ w.heap.size) (ty : TypeId) :
    ∃ v' w', (Builtin.append_ #[84, 84] ty #[v, s]).run Tryd.prog w = .ok v' w' ∧ BOwn w' B v' (l ++ m) ∧ Chg (ob v) w w' ∧ (∀ k ∈ ob v', k ∈ ob v ∨ w.heap.size ≤ k) := by
  obtain ⟨i, hi, hz, hsz, hby⟩ := infoOfB i_u8
  obtain ⟨a, cap, rfl⟩ : ∃ a cap, s = .slice a m.length cap := by obtain ⟨h1, a, cap, hv, _⟩ := hs; exact ⟨a, cap, hv⟩
  obtain ⟨v', w', hr, h2, h3, h4⟩ := run_append_any (P := Tryd.prog) w B 84 ty 5 i _ 1 1 u_bytes hi hz hsz hby rfl (by decide) v l.length _ h a m.length cap _ hs.rd (fun u hu => by obtain ⟨n, _, rfl⟩ := List.mem_map.1 hu; rfl) (by unfold maxLen; omega) (by omega) hB
  refine ⟨v', w', hr, ?_, h3, h4⟩
  unfold BOwn
  rw [List.length_append, List.map_append]
  exact h2
theorem ob_le {w w' : World} {v v' : Value} {B : Nat} {l : List Nat} (h : BOwn w B v l) (hB : B ≤ w.heap.size) (h4 : ∀ k ∈ ob v', k ∈ ob v ∨ w.heap.size ≤ k) : ∀ k ∈ ob v', B ≤ k := by
  intro k hk
  rcases h4 k hk with q | q
  · exact (own_lt h k q).1
  · omega

/-! slices.Grow on nothing, slices.Concat. -/
def GrowP (w : World) (n : Nat) (e : Ending) (w' : World) : Prop := ∃ v, e = .returned v ∧ BOwn w' w.heap.size v [] ∧ Chg [] w w'
set_option maxRecDepth 100000 in
theorem grow_calls (w : World) (n : Nat) (h0 : 0 < n) (hn : n ≤ 1099511627776) : Calls Tryd.prog 98 #[.slice none 0 0, .int .i64 n] w (GrowP w n) := by
  obtain ⟨i, hi, hz, hsz, hby⟩ := infoOfB i_u8
  have hold : (Builtin.firstCells i.size 0 (.slice none 0 0)).run Tryd.prog w.drew = .ok #[] w.drew := run_firstCells_none w.drew i.size 0 0 0
  have hG : n ≤ grownCap w n 0 5 := grownCap_ge w _ _ _
  have hG2 : grownCap w n 0 5 ≤ maxLen := grownCap_le_maxLen w n 0 5 (by unfold maxLen; omega)
  have hint : Tryd.prog.underlying 3 = some (.int .i64) := by kernel_rfl
  have hrz : ∀ ty, (Builtin.append_ #[84, 3] ty #[.slice none 0 0, .int .i64 (n : Int)]).run Tryd.prog w =
      .ok (.slice (some ⟨w.heap.size, 0, none⟩) n (grownCap w n 0 5)) (w.drew.alloc (.cells ((#[] : Array Value) ++ Builtin.zeroCells (Value.int .u8 0).cells n ++ Builtin.zeroCells (Value.int .u8 0).cells (grownCap w n 0 5 - n)) 5)) := fun ty => by
    have h := Lib.run_append_grow_zeros w 84 3 ty 5 i _ .i64 .i64 u_bytes hint hi hz none 0 0 [] hold n (by omega) (by omega) (by omega) (by omega)
      (by rw [hby]; omega)
      (by rw [Nat.zero_add]; exact growslice_fits (by omega) (by rw [hby]; omega))
    rw [Nat.zero_add] at h
    exact h
  have hcs : ((#[] : Array Value) ++ Builtin.zeroCells (Value.int .u8 0).cells n ++ Builtin.zeroCells (Value.int .u8 0).cells (grownCap w n 0 5 - n)).size = grownCap w n 0 5 := by
    simp [Builtin.zeroCells, Value.cells]
    omega
  unfold maxLen at hG2
  generalize ((#[] : Array Value) ++ Builtin.zeroCells (Value.int .u8 0).cells n ++ Builtin.zeroCells (Value.int .u8 0).cells (grownCap w n 0 5 - n)) = cs at *
  generalize grownCap w n 0 5 = G at *
  clear hold hi hz hsz hby hint
  have HCS := Lib.hid hcs
  clear hcs
  go_enter Tryd.func98, Tryd.ntmps98
  go_wp2_with (at_builtin; refine Lib.wpList_append_run _ rfl _ _ _ _ rfl _ _ rfl rfl _ _ (hrz _) ?_)
  go_ret
  refine ⟨_, rfl, ⟨by simp, .inr ⟨w.heap.size, G, cs, rfl, Nat.le_refl _, blk_new w.drew _, Nat.zero_le _, by unfold maxLen; omega, by rw [HCS.out]; omega, by simp⟩⟩, (((Chg.refl _ _).drew).alloc _)⟩
/-- The parts of a text, in memory one behind the other. -/
def Parts (w : World) (g o : Nat) (ps : List (Value × List Nat)) : Prop := ∀ i (h : i < ps.length), w.cell? ⟨g, o + i, none⟩ = some ps[i].1 ∧ BsIs w ps[i].1 ps[i].2
def sumL (ps : List (Value × List Nat)) (i : Nat) : Nat := ((ps.take i).map (·.2.length)).sum
def catL (ps : List (Value × List Nat)) (i : Nat) : List Nat := (ps.take i).flatMap (·.2)
theorem sumL_succ (ps : List (Value × List Nat)) (i : Nat) (h : i < ps.length) : sumL ps (i + 1) = sumL ps i + ps[i].2.length := by
  unfold sumL
  rw [List.take_succ_eq_append_getElem h, List.map_append, List.sum_append]
  rfl
theorem catL_succ (ps : List (Value × List Nat)) (i : Nat) (h : i < ps.length) : catL ps (i + 1) = catL ps i ++ ps[i].2 := by
  unfold catL
  rw [List.take_succ_eq_append_getElem h, List.flatMap_append]
  simp only [List.flatMap_cons, List.flatMap_nil, List.append_nil]
theorem catL_length (ps : List (Value × List Nat)) (i : Nat) : (catL ps i).length = sumL ps i := by
  unfold catL sumL
  simp [List.length_flatMap]
theorem sumL_le (ps : List (Value × List Nat)) (i j : Nat) (h : i ≤ j) : sumL ps i ≤ sumL ps j := by
  induction j with
  | zero => obtain rfl : i = 0 := by omega
            exact Nat.le_refl _
  | succ j ih =>
    rcases Nat.lt_or_ge i (j + 1) with q | q
    · refine Nat.le_trans (ih (by omega)) ?_
      rcases Nat.lt_or_ge j ps.length with r | r
      · rw [sumL_succ ps j r]; omega
      · unfold sumL
        rw [List.take_of_length_le (by omega), List.take_of_length_le (by omega)]
        exact Nat.le_refl _
    · obtain rfl : i = j + 1 := by omega
      exact Nat.le_refl _
theorem catL_lt {w : World} {g o : Nat} {ps : List (Value × List Nat)} (h : Parts w g o ps) (i : Nat) (hi : i ≤ ps.length) : ∀ x ∈ catL ps i, x < 256 := by
  intro x hx
  unfold catL at hx
  obtain ⟨p, hp, hx⟩ := List.mem_flatMap.1 hx
  obtain ⟨j, hj, rfl⟩ := List.getElem_of_mem (List.mem_of_mem_take hp)
  exact (h j hj).2.1 x hx
theorem Parts.chg0 {w w' : World} {g o : Nat} {ps : List (Value × List Nat)} (h : Parts w g o ps) (hc : Chg [] w w') : Parts w' g o ps := fun i hi =>
  ⟨(hc.cell (p := ⟨g, o + i, none⟩) (World.block_lt_of_cell? _ _ (h i hi).1) (by simp)).trans (h i hi).1, (h i hi).2.chg0 hc⟩
def ConcatP (w : World) (l : List Nat) (e : Ending) (w' : World) : Prop := ∃ v, e = .returned v ∧ BOwn w' w.heap.size v l ∧ Chg [] w w'
set_option maxRecDepth 100000 in
theorem concat_calls (w : World) (g o cap : Nat) (ps : List (Value × List Nat)) (hp : Parts w g o ps) (h0 : 0 < sumL ps ps.length) (hs : sumL ps ps.length ≤ 1099511627776) (hn : ps.length ≤ 1000000) :
    Calls Tryd.prog 78 #[.slice (some ⟨g, o, none⟩) ps.length cap] w (ConcatP w (catL ps ps.length)) := by
  go_enter Tryd.func78, Tryd.ntmps78
  go_wp2
  go_loopg [11, 3] ps.length (fun gh ii ss wx => ∃ i : Nat, i ≤ ps.length ∧ gh = ps.length - i ∧ ii = .int .i64 i ∧ ss = .int .i64 (sumL ps i : Nat) ∧ wx = w)
  case atStart => exact ⟨0, by omega, by omega, rfl, rfl, rfl⟩
  case round =>
    obtain ⟨i, hi, hgi, rfl, rfl, hwr⟩ := hrel
    obtain rfl : wr = w := hwr
    by_cases hlt : i < ps.length
    · have hlt' : i < ps.length := hlt
      have hsu := sumL_succ ps i hlt'
      have hle := sumL_le ps (i + 1) ps.length hlt'
      obtain ⟨hc, hb, a, c, hv, hrest⟩ := hp i hlt'
      rw [hv] at hc
      clear hrest
      have hbl := World.block_lt_of_cell? _ _ hc
      have HSU := Lib.hid hsu
      rw [hsu] at hle
      clear hsu hp hb
      generalize ps[i].2.length = m at *
      generalize sumL ps i = s at *
      generalize ps[i].1 = v at *
      subst hv
      go_wp2
      go_roundg (ps.length - (i + 1))
      case measure => omega
      case rel => exact ⟨i + 1, by omega, rfl, by go_num, by rw [HSU.out]; go_num, rfl⟩
    · obtain rfl : i = ps.length := by omega
      have hgr := grow_calls wr (sumL ps ps.length) h0 hs
      clear hgi
      go_wp2_with (go_at_call 98; refine hgr.mono ?_; rintro e w1 ⟨v1, rfl, hv1, hc1⟩)
      have hlen1 := catL_length ps
      obtain ⟨wo, rfl⟩ : ∃ wo : World, wo = wr := ⟨_, rfl⟩
      clear hgr
      go_loopg [27, 6] ps.length (fun gh ii vv wx => ∃ i : Nat, i ≤ ps.length ∧ gh = ps.length - i ∧ ii = .int .i64 i ∧ BOwn wx wo.heap.size vv (catL ps i) ∧ Chg [] wo wx)
      case atStart => exact ⟨0, by omega, by omega, rfl, hv1, hc1⟩
      case round =>
        clear hv1 hc1
        obtain ⟨i, hi, hgi, rfl, hO, hcw⟩ := hrel
        by_cases hlt : i < ps.length
        · have hlt' : i < ps.length := hlt
          have hsu := catL_succ ps i hlt'
          have hle := sumL_le ps (i + 1) ps.length hlt'
          rw [← hlen1 (i + 1), hsu, List.length_append] at hle
          obtain ⟨hc, hb⟩ := (hp.chg0 hcw) i hlt'
          have hbl := World.block_lt_of_cell? _ _ hc
          obtain ⟨v2, w2, hrun, hO2, hc2, hob⟩ := hb.append hO (by omega) hcw.size 84
          have HSU := Lib.hid hsu
          have hol := own_lt hO
          have HW : Chg [] wo w2 := hcw.trans hc2 (fun k hk => .inr (hol k hk).1)
          clear hsu hb hp hO hlen1 hle hol hob hc2 hcw
          generalize ps[i].1 = pv at *
          go_wp2_with (at_builtin; refine Lib.wpList_append_run _ rfl _ _ _ _ rfl _ _ rfl rfl _ _ hrun ?_)
          go_roundg (ps.length - (i + 1))
          case measure => omega
          case rel => exact ⟨i + 1, by omega, rfl, by go_num, by rw [HSU.out]; exact hO2, HW⟩
        · obtain rfl : i = ps.length := by omega
          clear hgi
          go_wp2
          go_ret
          exact ⟨_, rfl, hO, hcw⟩
end Go.Proofs.YtnodjlgihhinpaaDoor

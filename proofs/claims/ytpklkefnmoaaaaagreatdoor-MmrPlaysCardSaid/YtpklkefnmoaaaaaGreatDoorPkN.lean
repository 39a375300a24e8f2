/- Texts put into one by pack.py: OvH GrG HandK MpK MpN MpL. -/
import Derived.Deep.RegionHeld3
import Derived.Deep.MidRow
import Derived.Test.YtpklkefnmoaaaaaGreatDoorPkF
import Derived.Test.YtpklkefnmoaaaaaGreatDoorPkL
import Derived.Test.YtpklkefnmoaaaaaGreatDoorPkA
import Derived.Test.YtpklkefnmoaaaaaGreatDoorPkM
import Derived.Test.YtpklkefnmoaaaaaGreatDoorMpFp
/- Rows of hashes of the call's own, written over. -/
namespace Go.Proofs.YtpklkefnmoaaaaaGreatDoor
open Go.RowKit
set_option linter.unusedVariables false
set_option linter.unusedSimpArgs false
/-! Rows of hashes written over. -/
theorem flat_set {X : Array Value} (hX : X.size = 32) : ∀ (hs : List (Array Value)) (k : Nat), (∀ x ∈ hs, IsHash x) → k < hs.length →
    (hs.set k X).flatMap (·.toList) = (hs.flatMap (·.toList)).take (k * 32) ++ X.toList ++ (hs.flatMap (·.toList)).drop (k * 32 + 32) := by
  intro hs
  induction hs with
  | nil => intro k _ h; simp at h
  | cons x hs ih =>
    intro k hI hk
    have hx : x.toList.length = 32 := by rw [Array.length_toList]; exact (hI x (by simp)).1
    cases k with
    | zero =>
      simp only [List.set_cons_zero, List.flatMap_cons, Nat.zero_mul, List.take_zero, List.nil_append, Nat.zero_add]
      rw [← hx, List.drop_left]
    | succ k =>
      simp only [List.set_cons_succ, List.flatMap_cons]
      rw [ih k (fun y hy => hI y (by simp [hy])) (by simpa using hk)]
      rw [show (k + 1) * 32 = 32 + k * 32 from by omega, show 32 + k * 32 + 32 = 32 + (k * 32 + 32) from by omega]
      rw [List.take_append, List.drop_append, hx, List.take_of_length_le (l := x.toList) (by omega), List.drop_eq_nil_of_le (show x.toList.length ≤ 32 + (k * 32 + 32) from by omega), List.nil_append, show 32 + k * 32 - 32 = k * 32 from by omega, show 32 + (k * 32 + 32) - 32 = k * 32 + 32 from by omega]
      simp only [List.append_assoc]
theorem HOwn.putH {w : World} {B g n cap : Nat} {hs : List (Array Value)} (h : HOwn w B (.slice (some ⟨g, 0, none⟩) n cap) hs) {i : Nat} (hi : i < hs.length) {X : Array Value} (hX : IsHash X) :
    HOwn (setRng w g (i * 32) X) B (.slice (some ⟨g, 0, none⟩) n cap) (hs.set i X) ∧ may w g (i * 32) 32 = true := by
  have hfl := flat_length h.2
  have hIs : ∀ y ∈ hs.set i X, IsHash y := fun y hy => by
    rcases List.mem_or_eq_of_mem_set hy with q | q
    · exact h.2 y q
    · rw [q]; exact hX
  have hfs := flat_length hIs
  rw [List.length_set] at hfs
  have hlx : X.toList.length = 32 := by rw [Array.length_toList]; exact hX.1
  obtain ⟨hl, ⟨hv, _⟩ | ⟨g', cap', cur, hv, hb, hh, hnc, hm, hcs, ht⟩⟩ := h.1
  · cases hv
  · injection hv with e1 e2 e3
    injection e1 with e1
    injection e1 with e1
    subst e1 e2 e3
    have hcl : cur.toList.length = cap * 32 := by rw [Array.length_toList]; exact hcs
    have hnew := setRng_heap hh (i * 32) X (by rw [hX.1, hcs]; omega)
    have hsz : (cur.toList.take (i * 32) ++ X.toList ++ cur.toList.drop (i * 32 + X.size)).toArray.size = cap * 32 := by
      simp only [List.size_toArray, List.length_append, List.length_take, List.length_drop, hcl, hlx, hX.1]
      omega
    have htk : (cur.toList.take (i * 32) ++ X.toList ++ cur.toList.drop (i * 32 + X.size)).toArray.toList.take (hs.length * 32) = (hs.set i X).flatMap (·.toList) := by
      rw [flat_set hX.1 hs i h.2 hi, ← ht, List.take_take, Nat.min_eq_left (by omega), List.drop_take, hX.1]
      show List.take (hs.length * 32) (List.take (i * 32) cur.toList ++ X.toList ++ List.drop (i * 32 + 32) cur.toList) = _
      rw [List.append_assoc, List.append_assoc, List.take_append, List.length_take, hcl, Nat.min_eq_left (by omega), List.take_append, hlx]
      rw [List.take_of_length_le (l := List.take (i * 32) cur.toList) (by simp; omega), List.take_of_length_le (l := X.toList) (by rw [hlx]; omega), show hs.length * 32 - i * 32 - 32 = hs.length * 32 - (i * 32 + 32) from by omega]
    refine ⟨⟨⟨by rw [List.length_set]; exact hfs, .inr ⟨g, cap, _, by rw [List.length_set], hb, hnew, by rw [List.length_set]; exact hnc, hm, hsz, by rw [List.length_set]; exact htk⟩⟩, hIs⟩, may_row (o := i * 32) (n := 32) hh (by rw [hcs]; omega)⟩
def overH (x : Array Value) (k : Nat) (l : List (Array Value)) : List (Array Value) := List.replicate k x ++ l.drop k
theorem overH_zero (x : Array Value) (l : List (Array Value)) : overH x 0 l = l := by simp [overH]
theorem overH_len (x : Array Value) (k : Nat) (l : List (Array Value)) (hk : k ≤ l.length) : (overH x k l).length = l.length := by simp [overH]; omega
theorem overH_all (x : Array Value) (l : List (Array Value)) : overH x l.length l = List.replicate l.length x := by simp [overH]
theorem overH_set (x : Array Value) (k : Nat) (l : List (Array Value)) (hk : k < l.length) : (overH x k l).set k x = overH x (k + 1) l := by
  unfold overH
  rw [List.set_append_right _ _ (by simp)]
  simp only [List.length_replicate, Nat.sub_self]
  rw [List.drop_eq_getElem_cons hk, List.set_cons_zero, List.replicate_succ', List.append_assoc]
  rfl
theorem HOwn.overH {w : World} {B g cap k n : Nat} {x : Array Value} {l : List (Array Value)} (h : HOwn w B (.slice (some ⟨g, 0, none⟩) n cap) (overH x k l)) (hx : IsHash x) (hk : k < l.length) :
    HOwn (setRng w g (k * 32) x) B (.slice (some ⟨g, 0, none⟩) n cap) (Go.Proofs.YtpklkefnmoaaaaaGreatDoor.overH x (k + 1) l) ∧ may w g (k * 32) 32 = true ∧ g < w.heap.size := by
  have hp := h.putH (i := k) (by rw [overH_len x k l (by omega)]; exact hk) hx
  rw [overH_set x k l hk] at hp
  exact ⟨hp.1, hp.2, (own_lt h.1 g (by simp [ob_some])).2⟩
end Go.Proofs.YtpklkefnmoaaaaaGreatDoor

/- mark, all, marked of the trees' statements walked. -/
namespace Go.Proofs.YtpklkefnmoaaaaaGreatDoor
open Go.RowKit
set_option linter.unusedVariables false
set_option linter.unusedSimpArgs false

def MarkP (w : World) (v : Value) (n : Nat) (x : Array Value) (e : Ending) (w' : World) : Prop := ∃ v', e = .returned v' ∧ HOwn w' 0 v' (List.replicate (n + 2) x) ∧ Chg (ob v) w w' ∧ ∀ k ∈ ob v', k ∈ ob v ∨ w.heap.size ≤ k
set_option maxRecDepth 100000 in
theorem mark_calls (w : World) (B : Nat) (v : Value) (l : List (Array Value)) (h : HOwn w B v l) (hlen : l.length ≤ 100000) (x : Nat) (hx : x < 256) : Calls Tryz.prog 87 #[v, .int .u8 x] w (MarkP w v l.length (hash1 x)) := by
  obtain ⟨w0, rfl⟩ : ∃ w0 : World, w0 = w := ⟨_, rfl⟩
  have hX : IsHash (hash1 x) := hash1_is (by omega) (by omega)
  have hU : HOwn w0 0 v l := ⟨own_mono h.1 (Nat.zero_le _), h.2⟩
  obtain ⟨a, n, cap, rfl, hn, ha⟩ : ∃ a n cap, v = .slice a n cap ∧ n = l.length ∧ (0 < n → ∃ g, a = some ⟨g, 0, none⟩) := by
    rcases h.1.2 with ⟨rfl, h0⟩ | ⟨g, cap, cur, rfl, _⟩
    · exact ⟨none, 0, 0, rfl, h0.symm, fun q => by omega⟩
    · exact ⟨_, l.length, cap, rfl, rfl, fun _ => ⟨g, rfl⟩⟩
  rw [← hn]
  have HN := Lib.hid hn
  have s1 := hX.1
  have s2 := hX.one
  have HX := Lib.hid hX
  have hnb : n ≤ 100000 := by omega
  clear h hX hn hlen
  go_enter Tryz.func87, Tryz.ntmps87
  go_wp2
  go_loopg [5] n (fun g ii wx => ∃ k, k ≤ n ∧ g = n - k ∧ ii = .int .i64 k ∧ HOwn wx 0 (.slice a n cap) (overH (hash1 x) k l) ∧ Chg (ob (.slice a n cap)) w0 wx)
  case atStart => exact ⟨0, by omega, by omega, rfl, by rw [overH_zero]; exact hU, Chg.refl _ _⟩
  case round =>
    clear hU
    obtain ⟨k, hkl, hg, rfl, hU, hC⟩ := hrel
    by_cases hlt : k < n
    · obtain ⟨g', rfl⟩ := ha (by omega)
      obtain ⟨hn1, hm1, hl1⟩ := hU.overH HX.out (show k < l.length by rw [← HN.out]; exact hlt)
      have hcA : Chg [g'] wr (setRng wr g' (k * 32) (hash1 x)) := setRng_chg _ _ _ _
      have hCf := hC.trans hcA (fun z hz => .inl (by simp at hz; subst hz; simp [ob_some]))
      have HN1 := Lib.hid hn1
      have HCF := Lib.hid hCf
      have HG := Lib.hid hg
      have k0 : (0 : Int) ≤ (k : Int) := by omega
      have k1 : (k : Int) < (n : Int) := by omega
      clear hn1 hCf hcA hU hC hg ha
      go_wp2
      go_roundg (n - (k + 1))
      case measure => rw [HG.out]; omega
      case rel => exact ⟨k + 1, by omega, rfl, by go_num, HN1.out, HCF.out⟩
    · obtain rfl : k = n := by omega
      rw [show overH (hash1 x) k l = List.replicate k (hash1 x) from by rw [HN.out, overH_all]] at hU
      have hl1 := own_lt hU.1
      obtain ⟨v1, w3, hr1, hO1, hc3, hb3⟩ := HOwn.push hU (hash1 x) HX.out (by simp; omega) (Nat.zero_le _) 39
      obtain ⟨v2, w4, hr2, hO2, hc4, hb4⟩ := HOwn.push hO1 (hash1 x) HX.out (by simp; omega) (Nat.zero_le _) 39
      have hO : HOwn w4 0 v2 (List.replicate (k + 2) (hash1 x)) := by
        rw [List.replicate_succ', List.replicate_succ']; exact hO2
      have hfin : MarkP w0 (.slice a k cap) k (hash1 x) (.returned v2) w4 := ⟨v2, rfl, hO, (hC.trans hc3 (fun z hz => .inl hz)).trans hc4 (fun z hz => by
        rcases hb3 z hz with q | q
        · exact .inl q
        · exact .inr (by have := hC.size; omega)), fun z hz => by
        rcases hb4 z hz with q | q
        · rcases hb3 z q with q | q
          · exact .inl q
          · exact .inr (by have := hC.size; omega)
        · exact .inr (by have := hC.size; have := hc3.size; omega)⟩
      have HF := Lib.hid hfin
      clear hfin hO hO1 hO2 hU hC hc3 hc4 hb3 hb4 hl1 hg ha
      go_wp2_with (first
        | (at_builtin; refine Lib.wpList_append_run _ rfl _ _ _ _ rfl _ _ rfl rfl _ _ hr1 ?_)
        | (at_builtin; refine Lib.wpList_append_run _ rfl _ _ _ _ rfl _ _ rfl rfl _ _ hr2 ?_))
      go_ret
      exact HF.out
set_option maxRecDepth 100000 in
theorem all_calls (w : World) (v : Value) (m : Nat) (x : Nat) (hx : x < 256) (ha : HsIs w v (List.replicate m (hash1 x))) (hlen : m ≤ 1000000) : Calls Tryz.prog 88 #[v, .int .u8 x] w (Res w [] (.bool true)) := by
  obtain ⟨w0, rfl⟩ : ∃ w0 : World, w0 = w := ⟨_, rfl⟩
  have hX : IsHash (hash1 x) := hash1_is (by omega) (by omega)
  obtain ⟨hI, a, cap, rfl, hr⟩ := ha
  rw [List.length_replicate]
  have heq : eqH (hash1 x) (hash1 x) = true := eqH_self
  have s1 := hX.1
  have s2 := hX.one
  clear hI
  go_enter Tryz.func88, Tryz.ntmps88
  go_wp2
  go_loopg [5] m (fun g ii wx => ∃ n : Nat, n ≤ m ∧ g = m - n ∧ ii = .int .i64 n ∧ Chg [] w0 wx)
  case atStart => exact ⟨0, by omega, by omega, rfl, Chg.refl _ _⟩
  case round =>
    obtain ⟨n, hnl, hg, rfl, hC⟩ := hrel
    by_cases hlt : n < m
    · rcases hr with hr | ⟨pb, po, rfl, hpb, hr⟩
      · have := congrArg List.length hr; simp at this; omega
      have r1 := rng?_chg hC (hr n (by rw [List.length_replicate]; exact hlt)) (by omega) (by simp)
      rw [List.getElem_replicate] at r1
      have l1 := World.block_lt_of_cell? _ _ ((rng?_cell r1).2 0 (by rw [(rng?_cell r1).1]; omega))
      have n0 : (0 : Int) ≤ (n : Int) := by omega
      have n1 : (n : Int) < (m : Int) := by omega
      have HG := Lib.hid hg
      have HC := Lib.hid hC
      clear hg hr hC
      go_wp2
      go_roundg (m - (n + 1))
      case measure => rw [HG.out]; omega
      case rel => exact ⟨n + 1, by omega, rfl, by go_num, HC.out⟩
    · obtain rfl : n = m := by omega
      clear hg hr
      go_wp2
      go_ret
      exact ⟨rfl, hC⟩
set_option maxRecDepth 100000 in
theorem marked_calls (w : World) (B g cap n : Nat) (l : List (Array Value)) (h : HOwn w B (.slice (some ⟨g, 0, none⟩) (n + 1) cap) (l ++ [hash1 171])) (hn : n = l.length) (hc : n + 1 ≤ cap) (hlen : n ≤ 1000000) :
    Calls Tryz.prog 96 #[.slice (some ⟨g, 0, none⟩) n cap] w (Res w [] (.bool true)) := by
  obtain ⟨w0, rfl⟩ : ∃ w0 : World, w0 = w := ⟨_, rfl⟩
  obtain ⟨hI, a, cap', hv, hr⟩ := h.hs
  rcases hr with hr | ⟨pb, po, rfl, hpb, hr⟩
  · simp at hr
  injection hv with e1 e2 e3
  injection e1 with e1
  injection e1 with e1 e4
  subst e1 e3 e4
  have r1 := hr n (by simp; omega)
  rw [List.getElem_append_right (by omega)] at r1
  simp only [List.getElem_singleton, Nat.zero_add] at r1
  have hX : IsHash (hash1 171) := hash1_is (by omega) (by omega)
  have heq : eqH (hash1 171) (hash1 171) = true := eqH_self
  have s1 := hX.1
  have s2 := hX.one
  have n1 : (n : Int) + 1 ≤ (cap : Int) := by omega
  have n2 : (0 : Int) ≤ (n : Int) + 1 := by omega
  have n3 : (n : Int) < (n : Int) + 1 := by omega
  have n4 : ((n : Int) + 1).toNat = n + 1 := by omega
  clear hr hI h hn e2
  go_enter Tryz.func96, Tryz.ntmps96
  go_wp2
  go_ret
  exact ⟨rfl, Chg.refl _ _⟩
end Go.Proofs.YtpklkefnmoaaaaaGreatDoor

/- A region walked by hand: the condition on the world may be made stronger on the way (what a call of the region has made is known from there on). Nothing of a program. -/
namespace Go.Proofs.YtpklkefnmoaaaaaGreatDoor
open Go.RowKit
set_option linter.unusedVariables false
set_option linter.unusedSimpArgs false
theorem wpAnyH_more {P : Program} {md : Region.Mode} {ops : Array Oper} {Q : Exit → Act → World → Prop} {S S' : World → Prop} (hi : ∀ w, S' w → S w) :
    ∀ (fuel : Nat) (listed : Array Bool) (a : Act) (w : World), wpAnyH P md ops Q S' fuel listed a w → wpAnyH P md ops Q S fuel listed a w
  | 0, _, _, _, h => h
  | fuel + 1, _, _, _, h => ⟨h.1, fun i hi' => wpOp_mono (fun a' w' h' => ⟨hi _ h'.1, wpAnyH_more hi fuel _ a' w' h'.2⟩) (h.2 i hi')⟩
end Go.Proofs.YtpklkefnmoaaaaaGreatDoor

/- MmrPlays' acts: a node, an earlier root, nothing; drop, back; append. -/
namespace Go.Proofs.YtpklkefnmoaaaaaGreatDoor
open Go.RowKit
set_option linter.unusedVariables false
set_option linter.unusedSimpArgs false
/-- What an act leaves. -/
def ActQ (F0 : List Nat) (w0 : World) (b rb m : Nat) (e : Ending) (w' : World) : Prop := e = .returned (.bool true) ∧ ∃ t' r', Two F0 w0 w' b rb t' r' ∧ Rel t' r' m
theorem Both.act {F0 : List Nat} {w0 w' : World} {b rb m sb c : Nat} (h : Both F0 w0 b rb m sb c w') : ActQ F0 w0 b rb m (.returned (.bool true)) w' := by
  obtain ⟨t', r', h1, h2, _⟩ := h
  exact ⟨rfl, t', r', h1, h2⟩
section
variable {F0 : List Nat} {w0 w : World} {b rb m : Nat} {t : TS} {r : RT} {x : AM}
set_option maxRecDepth 100000 in
theorem actM_none (h : Two F0 w0 w b rb t r) (hr : Rel t r m) (hx : x.ok w) (hw : ∀ k : Int, 1 ≤ k → k ≤ 8 → x.what ≠ k) : Calls Tryz.prog 17 #[.pointer (some ⟨b, 0, none⟩), .pointer (some ⟨rb, 0, none⟩), .agg x.cells] w (ActQ F0 w0 b rb (m + 1)) := by
  have hcs := hx.size
  have hco := hx.one
  have hc0 : Chg [] w (w.alloc (.cells x.cells 41)) := (Chg.refl _ _).alloc _
  have hB := AMB.new (w := w) hx.hash
  have k0 := hB.c0
  have hbl := hB.lt
  have hf : ∀ k : Int, 1 ≤ k → k ≤ 8 → (x.what == k) = false := fun k h1 h2 => by rw [beq_eq_false_iff_ne]; exact hw k h1 h2
  have f1 := hf 1 (by omega) (by omega)
  have f2 := hf 2 (by omega) (by omega)
  have f3 := hf 3 (by omega) (by omega)
  have f4 := hf 4 (by omega) (by omega)
  have f5 := hf 5 (by omega) (by omega)
  have f6 := hf 6 (by omega) (by omega)
  have f7 := hf 7 (by omega) (by omega)
  have f8 := hf 8 (by omega) (by omega)
  have hfin := (h.both0 hr (m' := m + 1) (by omega) hc0).act
  have HF := Lib.hid hfin
  clear hB hx hf hw hfin hc0
  go_enter Tryz.func17, Tryz.ntmps17
  go_wp2
  go_ret
  exact HF.out
set_option maxRecDepth 100000 in
set_option maxHeartbeats 4000000 in
theorem actM_node (h : Two F0 w0 w b rb t r) (hr : Rel t r m) (hx : x.ok w) (hw : x.what = 4) : Calls Tryz.prog 17 #[.pointer (some ⟨b, 0, none⟩), .pointer (some ⟨rb, 0, none⟩), .agg x.cells] w (ActQ F0 w0 b rb (m + 1)) := by
  have hp64 := hx.p
  have hs1 := hx.hash.1
  have hs2 := hx.hash.one
  have hcs := hx.size
  have hco := hx.one
  have hc0 : Chg [] w (w.alloc (.cells x.cells 41)) := (Chg.refl _ _).alloc _
  have hB := AMB.new (w := w) hx.hash
  have hT0 := h.chg0 hc0
  have k0 := hB.c0
  rw [hw] at k0
  have hbl := hB.lt
  have hp64 := hx.p
  have hs1 := hx.hash.1
  have hs2 := hx.hash.one
  have hcs := hx.size
  have hco := hx.one
  have hc0 : Chg [] w (w.alloc (.cells x.cells 41)) := (Chg.refl _ _).alloc _
  have hB := AMB.new (w := w) hx.hash
  have hT0 := h.chg0 hc0
  have k0 := hB.c0
  rw [hw] at k0
  have hbl := hB.lt
  have hp64 := hx.p
  have hs1 := hx.hash.1
  have hs2 := hx.hash.one
  have hcs := hx.size
  have hco := hx.one
  have hc0 : Chg [] w (w.alloc (.cells x.cells 41)) := (Chg.refl _ _).alloc _
  have hB := AMB.new (w := w) hx.hash
  have hT0 := h.chg0 hc0
  have k0 := hB.c0
  rw [hw] at k0
  have hbl := hB.lt
  have hbT : w.heap.size ∉ t.foot b := fun hk => by have := h.tr.lt _ hk; omega
  have hbR : w.heap.size ∉ r.foot rb := fun hk => by have := h.rf.lt _ hk; omega
  have k34 := hB.c34
  have hB2 := fun (W : World) (hc : Chg [] (w.alloc (.cells x.cells 41)) W) => hB.chg hc (by simp)
  have q1 := fun (W : World) (hc : Chg [] (w.alloc (.cells x.cells 41)) W) => tNode_calls W b x.p t (hT0.tr.chg0 hc) hp64
  have q2 := fun (W : World) (hc : Chg [] (w.alloc (.cells x.cells 41)) W) => r6node_calls W rb x.p r (hT0.rf.chg0 hc)
  have hHe : dH r.d x.p = t.s.getH x.p := (hr.getH' x.p).symm
  have hEe : dE r.d x.p = t.s.getE x.p := (hr.getE' x.p).symm
  rw [hHe, hEe] at q2
  have hgi := IsHash.getH h.tr.st x.p
  have g1 := hgi.1
  have g2 := hgi.one
  have hfin := fun (W : World) (hc : Chg [] (w.alloc (.cells x.cells 41)) W) => (hT0.both0 hr (m' := m + 1) (by omega) hc).act
  have HF := Lib.hid hfin
  have HB := Lib.hid hB2
  have Q1 := Lib.hid q1
  have Q2 := Lib.hid q2
  clear hB hx hw hfin hT0 hc0 h hr q1 q2 hB2 hHe hEe
  generalize t.s.getH x.p = H at *
  generalize t.s.getE x.p = E at *
  have hee : (E == E) = true := by simp
  have heq : eqH H H = true := eqH_self
  generalize hbx : w.alloc (.cells x.cells 41) = wb at *
  have HX := Lib.hid hbx
  go_enter Tryz.func17, Tryz.ntmps17
  go_wp2_with fail
  go_at_call 50
  refine (Q1.out _ (Chg.refl _ _)).mono ?_
  rintro e w1 ⟨rfl, hc1⟩
  have z1 := (HB.out _ hc1).c34
  have z2 := (HB.out _ hc1).lt
  have a1 := rng?_alloc_at w1 w1.heap.size 32 H 36 rfl g1
  have hcA : Chg [] wb (w1.alloc (.cells H 36)) := hc1.alloc _
  have z3 := (HB.out _ hcA).c34
  have z4 := (HB.out _ hcA).lt
  have z5 : w1.heap.size < (w1.alloc (.cells H 36)).heap.size := by rw [World.size_alloc]; omega
  go_wp2_with fail
  go_at_call 90
  refine (Q2.out _ hcA).mono ?_
  rintro e w2 ⟨rfl, hc2⟩
  have a2 := rng?_chg hc2 a1 (by omega) (by simp)
  have z6 : w1.heap.size < w2.heap.size := Nat.lt_of_lt_of_le z5 hc2.size
  go_wp2
  go_ret
  exact HF.out _ ((hcA.nil_trans hc2).alloc _)
set_option maxRecDepth 100000 in
set_option maxHeartbeats 4000000 in
theorem actM_old (h : Two F0 w0 w b rb t r) (hr : Rel t r m) (hm : m ≤ 1000) (hk : HIs w) (hx : x.ok w) (hw : x.what = 5) : Calls Tryz.prog 17 #[.pointer (some ⟨b, 0, none⟩), .pointer (some ⟨rb, 0, none⟩), .agg x.cells] w (ActQ F0 w0 b rb (m + 1)) := by
  have hp64 := hx.p
  have hs1 := hx.hash.1
  have hs2 := hx.hash.one
  have hcs := hx.size
  have hco := hx.one
  have hc0 : Chg [] w (w.alloc (.cells x.cells 41)) := (Chg.refl _ _).alloc _
  have hB := AMB.new (w := w) hx.hash
  have hT0 := h.chg0 hc0
  have k0 := hB.c0
  rw [hw] at k0
  have hbl := hB.lt
  have hp64 := hx.p
  have hs1 := hx.hash.1
  have hs2 := hx.hash.one
  have hcs := hx.size
  have hco := hx.one
  have hc0 : Chg [] w (w.alloc (.cells x.cells 41)) := (Chg.refl _ _).alloc _
  have hB := AMB.new (w := w) hx.hash
  have hT0 := h.chg0 hc0
  have k0 := hB.c0
  rw [hw] at k0
  have hbl := hB.lt
  have hp64 := hx.p
  have hs1 := hx.hash.1
  have hs2 := hx.hash.one
  have hcs := hx.size
  have hco := hx.one
  have hc0 : Chg [] w (w.alloc (.cells x.cells 41)) := (Chg.refl _ _).alloc _
  have hB := AMB.new (w := w) hx.hash
  have hT0 := h.chg0 hc0
  have k0 := hB.c0
  rw [hw] at k0
  have hbl := hB.lt
  have hbT : w.heap.size ∉ t.foot b := fun hk => by have := h.tr.lt _ hk; omega
  have hbR : w.heap.size ∉ r.foot rb := fun hk => by have := h.rf.lt _ hk; omega
  have k34 := hB.c34
  have hB2 := fun (W : World) (hc : Chg [] (w.alloc (.cells x.cells 41)) W) => hB.chg hc (by simp)
  have hsz := hr.size
  have hgl : IsHash (oldV t.s.getE t.s.getH t.wd x.p) := by
    unfold oldV
    split
    · exact bagR_is _ _ (fun y hy => by
        unfold atL at hy
        split at hy
        · obtain ⟨p, _, rfl⟩ := List.mem_map.1 hy
          exact IsHash.getH h.tr.st p
        · simp at hy)
    · exact zeroHash_is
  have hE1 : dE r.d = t.s.getE := funext fun p => (hr.getE' p).symm
  have hH1 : dH r.d = t.s.getH := funext fun p => (hr.getH' p).symm
  have key : ∃ (H : Array Value) (E : Int), IsHash H ∧ (∀ W, Chg [] (w.alloc (.cells x.cells 41)) W → Calls Tryz.prog 91 #[.pointer (some ⟨b, 0, none⟩), .int .u64 x.p] W (Res W [] (.tuple #[.agg H, .int .i64 E]))) ∧
      (∀ W, Chg [] (w.alloc (.cells x.cells 41)) W → Calls Tryz.prog 92 #[.pointer (some ⟨rb, 0, none⟩), .int .u64 x.p] W (Res W [] (.tuple #[.agg H, .int .i64 E]))) := by
    by_cases hp : x.p ≤ t.size
    · refine ⟨_, _, hgl, fun W hc => (tOld_calls W b t x.p (hT0.tr.chg0 hc) hp (by omega) ((hk.chg0 hc0).chg0 hc)).mono fun e w' h => h.at, fun W hc => ?_⟩
      have := r6old_calls W rb r x.p (hT0.rf.chg0 hc) (by rw [hr.n]; exact hp) (by rw [hr.n]; omega)
      rw [hE1, hH1, hr.wd] at this
      exact this
    · exact ⟨zeroHash, 30, zeroHash_is, fun W hc => tOld_far W b t x.p (hT0.tr.chg0 hc) (by omega) hp64 (by omega), fun W hc => r6old_far W rb r x.p (hT0.rf.chg0 hc) (by rw [hr.n]; omega)⟩
  obtain ⟨H, E, hgi, q1, q2⟩ := key
  have g1 := hgi.1
  have g2 := hgi.one
  have hfin := fun (W : World) (hc : Chg [] (w.alloc (.cells x.cells 41)) W) => (hT0.both0 hr (m' := m + 1) (by omega) hc).act
  have HF := Lib.hid hfin
  have HB := Lib.hid hB2
  have Q1 := Lib.hid q1
  have Q2 := Lib.hid q2
  clear hB hx hw hfin hT0 hc0 h hr q1 q2 hB2 hgl hE1 hH1 hk
  have hee : (E == E) = true := by simp
  have heq : eqH H H = true := eqH_self
  generalize hbx : w.alloc (.cells x.cells 41) = wb at *
  have HX := Lib.hid hbx
  go_enter Tryz.func17, Tryz.ntmps17
  go_wp2_with fail
  go_at_call 91
  refine (Q1.out _ (Chg.refl _ _)).mono ?_
  rintro e w1 ⟨rfl, hc1⟩
  have z1 := (HB.out _ hc1).c34
  have z2 := (HB.out _ hc1).lt
  have a1 := rng?_alloc_at w1 w1.heap.size 32 H 36 rfl g1
  have hcA : Chg [] wb (w1.alloc (.cells H 36)) := hc1.alloc _
  have z3 := (HB.out _ hcA).c34
  have z4 := (HB.out _ hcA).lt
  have z5 : w1.heap.size < (w1.alloc (.cells H 36)).heap.size := by rw [World.size_alloc]; omega
  go_wp2_with fail
  go_at_call 92
  refine (Q2.out _ hcA).mono ?_
  rintro e w2 ⟨rfl, hc2⟩
  have a2 := rng?_chg hc2 a1 (by omega) (by simp)
  have z6 : w1.heap.size < w2.heap.size := Nat.lt_of_lt_of_le z5 hc2.size
  go_wp2
  go_ret
  exact HF.out _ ((hcA.nil_trans hc2).alloc _)
end
end Go.Proofs.YtpklkefnmoaaaaaGreatDoor

/- MmrPlays' acts: peaks and root. -/
namespace Go.Proofs.YtpklkefnmoaaaaaGreatDoor
open Go.RowKit
set_option linter.unusedVariables false
set_option linter.unusedSimpArgs false
section
variable {F0 : List Nat} {w0 w : World} {b rb m : Nat} {t : TS} {r : RT} {x : AM}
theorem Rel.peaks (hr : Rel t r m) : atL (dE r.d) (dH r.d) (peaksN r.n) = PeaksOf t.s (peaksN t.size) := by
  have hE1 : dE r.d = t.s.getE := funext fun p => (hr.getE' p).symm
  have hH1 : dH r.d = t.s.getH := funext fun p => (hr.getH' p).symm
  rw [hE1, hH1, hr.n]
  rfl
theorem Rel.root (hr : Rel t r m) : r.root = t.root := by
  unfold RT.root TS.root
  rw [hr.peaks, hr.wd, hr.n]
theorem TrIs.rootIs (h : TrIs w b t) : IsHash t.root := bagR_is _ _ (fun x hx => by
  unfold PeaksOf at hx
  split at hx
  · obtain ⟨p, _, rfl⟩ := List.mem_map.1 hx
    exact IsHash.getH h.st p
  · simp at hx)
set_option maxRecDepth 100000 in
set_option maxHeartbeats 8000000 in
theorem actM_peaks (h : Two F0 w0 w b rb t r) (hr : Rel t r m) (hm : m ≤ 1000) (hk : HIs w) (hx : x.ok w) (hw : x.what = 3) : Calls Tryz.prog 17 #[.pointer (some ⟨b, 0, none⟩), .pointer (some ⟨rb, 0, none⟩), .agg x.cells] w (ActQ F0 w0 b rb (m + 1)) := by
  have hp64 := hx.p
  have hs1 := hx.hash.1
  have hs2 := hx.hash.one
  have hcs := hx.size
  have hco := hx.one
  have hc0 : Chg [] w (w.alloc (.cells x.cells 41)) := (Chg.refl _ _).alloc _
  have hB := AMB.new (w := w) hx.hash
  have hT0 := h.chg0 hc0
  have k0 := hB.c0
  rw [hw] at k0
  have hbl := hB.lt
  have hp64 := hx.p
  have hs1 := hx.hash.1
  have hs2 := hx.hash.one
  have hcs := hx.size
  have hco := hx.one
  have hc0 : Chg [] w (w.alloc (.cells x.cells 41)) := (Chg.refl _ _).alloc _
  have hB := AMB.new (w := w) hx.hash
  have hT0 := h.chg0 hc0
  have k0 := hB.c0
  rw [hw] at k0
  have hbl := hB.lt
  have hp64 := hx.p
  have hs1 := hx.hash.1
  have hs2 := hx.hash.one
  have hcs := hx.size
  have hco := hx.one
  have hc0 : Chg [] w (w.alloc (.cells x.cells 41)) := (Chg.refl _ _).alloc _
  have hB := AMB.new (w := w) hx.hash
  have hT0 := h.chg0 hc0
  have k0 := hB.c0
  rw [hw] at k0
  have hbl := hB.lt
  have hbT : w.heap.size ∉ t.foot b := fun hk => by have := h.tr.lt _ hk; omega
  have hbR : w.heap.size ∉ r.foot rb := fun hk => by have := h.rf.lt _ hk; omega
  have hsz := hr.size
  have q1 : ∀ W, Chg [] (w.alloc (.cells x.cells 41)) W → Calls Tryz.prog 85 #[.pointer (some ⟨rb, 0, none⟩)] W (PkG (PeaksOf t.s (peaksN t.size)) W) := fun W hc => by
    have := r6peaks_calls W rb r (hT0.rf.chg0 hc) (by rw [hr.n]; omega)
    rwa [hr.peaks] at this
  have q2 := fun (W : World) (hc : Chg [] (w.alloc (.cells x.cells 41)) W) => tPeaks_calls W b t (hT0.tr.chg0 hc) (by omega)
  have q3 := fun (W : World) (hc : Chg [] (w.alloc (.cells x.cells 41)) W) => tRoot_calls W b t (hT0.tr.chg0 hc) (by omega) ((hk.chg0 hc0).chg0 hc)
  have q4 : ∀ W, Chg [] (w.alloc (.cells x.cells 41)) W → Calls Tryz.prog 89 #[.pointer (some ⟨rb, 0, none⟩)] W (Res W [] (.agg t.root)) := fun W hc => by
    have := r6root_calls W rb r (hT0.rf.chg0 hc) (by rw [hr.n]; omega)
    rwa [hr.root] at this
  have hno := fun (W : World) (hc : Chg [] (w.alloc (.cells x.cells 41)) W) => (hT0.both0 hr (m' := m + 1) (by omega) hc).act
  have hRi := h.tr.rootIs
  have hGl : (PeaksOf t.s (peaksN t.size)).length ≤ 63 := Nat.le_trans (PeaksOf_len _ _) (peaks_63 _)
  have Q1 := Lib.hid q1
  have Q2 := Lib.hid q2
  have Q3 := Lib.hid q3
  have Q4 := Lib.hid q4
  have HN := Lib.hid hno
  clear hB hx hw hT0 hc0 h hr q1 q2 q3 q4 hno hk
  generalize t.root = R at *
  generalize PeaksOf t.s (peaksN t.size) = G at *
  have r1 := hRi.1
  have r2 := hRi.one
  have heq : eqH R R = true := eqH_self
  generalize hbx : w.alloc (.cells x.cells 41) = wb at *
  have HX := Lib.hid hbx
  obtain ⟨n, hn⟩ : ∃ n, G.length = n := ⟨_, rfl⟩
  rw [hn] at hGl
  have HGN := Lib.hid hn
  clear hn
  go_enter Tryz.func17, Tryz.ntmps17
  go_wp2_with fail
  go_at_call 85
  refine (Q1.out _ (Chg.refl _ _)).mono ?_
  rintro e w1 ⟨aw, capw, rfl, hOw, hc1⟩
  clear hbx
  rw [HGN.out] at hOw ⊢
  go_wp2_with fail
  go_at_call 48
  refine (Q2.out _ hc1).mono ?_
  rintro e w2 ⟨va, rfl, hOa, hc2⟩
  obtain ⟨aa, capa, rfl⟩ := hOa.shp
  rw [HGN.out] at hOa ⊢
  have c02 := hc1.nil_trans hc2
  go_wp2_with fail
  go_at_call 48
  refine (Q2.out _ c02).mono ?_
  rintro e w3 ⟨vb, rfl, hOb, hc3⟩
  obtain ⟨ab, capb, rfl⟩ := hOb.shp
  rw [HGN.out] at hOb ⊢
  have c13 := hc2.nil_trans hc3
  have c03 := hc1.nil_trans c13
  have hA3 := hOa.hs.chg0 hc3
  have hW3 := hOw.hs.chg0 c13
  have hGm : G.length ≤ 1000000 := by rw [HGN.out]; omega
  have S1 := Lib.hid (fun (W : World) (hW : Chg [] w3 W) => same_calls W _ _ G (hA3.chg0 hW) (hW3.chg0 hW) hGm)
  have S2 := Lib.hid (fun (W : World) (hW : Chg [] w3 W) => same_calls W _ _ G (hOb.hs.chg0 hW) (hW3.chg0 hW) hGm)
  clear hA3 hW3
  have HOA := Lib.hid hOa
  have HOB := Lib.hid hOb
  have HOW := Lib.hid hOw
  clear hOa hOb hOw
  go_wp2_with fail
  go_at_call 86
  refine (S1.out _ (Chg.refl _ _)).mono ?_
  rintro e w5 ⟨rfl, d5⟩
  go_wp2_with fail
  go_at_call 86
  refine (S2.out _ d5).mono ?_
  rintro e w6 ⟨rfl, d6⟩
  replace d6 := d5.nil_trans d6
  clear S1 S2 d5
  have hOa6 : HOwn w6 w1.heap.size (.slice aa n capa) G := HOA.out.chg (hc3.nil_trans d6) (by simp)
  have hMA : Calls Tryz.prog 87 #[.slice aa n capa, .int .u8 201] w6 (MarkP w6 (.slice aa n capa) G.length (hash1 201)) := mark_calls w6 _ _ G hOa6 (by rw [HGN.out]; omega) 201 (by omega)
  go_wp2_with fail
  go_at_call 87
  refine hMA.mono ?_
  rintro e w7 ⟨vx, rfl, hX, cX, bX⟩
  rw [HGN.out] at hX
  obtain ⟨ax, capx, rfl⟩ := hX.shp
  rw [List.length_replicate] at hX bX ⊢
  have hOb7 : HOwn w7 w2.heap.size (.slice ab n capb) G := (HOB.out.chg d6 (by simp)).chg cX (fun k hk hk2 => by
    have := (own_lt HOB.out.1 k hk).1
    have := (own_lt HOA.out.1 k hk2).2
    omega)
  have hMB : Calls Tryz.prog 87 #[.slice ab n capb, .int .u8 202] w7 (MarkP w7 (.slice ab n capb) G.length (hash1 202)) := mark_calls w7 _ _ G hOb7 (by rw [HGN.out]; omega) 202 (by omega)
  clear hMA hOa6 hOb7
  go_wp2_with fail
  go_at_call 87
  refine hMB.mono ?_
  rintro e w8 ⟨vy, rfl, hY, cY, bY⟩
  rw [HGN.out] at hY
  obtain ⟨ay, capy, rfl⟩ := hY.shp
  rw [List.length_replicate] at hY bY ⊢
  have c18 : Chg [] w1 w8 := ((c13.nil_trans d6).trans cX (fun k hk => .inr (own_lt HOA.out.1 k hk).1)).trans cY (fun k hk => .inr (by
    have := (own_lt HOB.out.1 k hk).1
    have := hc2.size
    omega))
  have hX8 := hX.chg cY (fun k hk hk2 => by
    have h3 := own_lt HOB.out.1 k hk2
    rcases bX k hk with q | q
    · have := (own_lt HOA.out.1 k q).2
      omega
    · have := d6.size
      omega)
  have c08 := hc1.nil_trans c18
  have hW8 := HOW.out.hs.chg0 c18
  have T1 := Lib.hid (fun (W : World) (hW : Chg [] w8 W) => (show Calls Tryz.prog 88 #[.slice ax (n + 2) capx, .int .u8 201] W (Res W [] (.bool true)) from all_calls W _ (n + 2) 201 (by omega) (hX8.hs.chg0 hW) (by omega)))
  have T2 := Lib.hid (fun (W : World) (hW : Chg [] w8 W) => (show Calls Tryz.prog 88 #[.slice ay (n + 2) capy, .int .u8 202] W (Res W [] (.bool true)) from all_calls W _ (n + 2) 202 (by omega) (hY.hs.chg0 hW) (by omega)))
  have HW8 := Lib.hid hW8
  clear hX hX8 hY cX cY bX bY hMB hW8 d6 c13 c03 c02 hc2 hc3 c18
  go_wp2_with fail
  go_at_call 88
  refine (T1.out _ (Chg.refl _ _)).mono ?_
  rintro e w9 ⟨rfl, d5⟩
  go_wp2_with fail
  go_at_call 88
  refine (T2.out _ d5).mono ?_
  rintro e w10 ⟨rfl, d6⟩
  replace d6 := d5.nil_trans d6
  go_wp2_with fail
  go_at_call 48
  refine (Q2.out _ (c08.nil_trans d6)).mono ?_
  rintro e w11 ⟨vc, rfl, hOc, d7⟩
  obtain ⟨ac, capc, rfl⟩ := hOc.shp
  replace d7 := d6.nil_trans d7
  rw [HGN.out] at hOc ⊢
  have hsc := same_calls w11 _ _ G hOc.hs (HW8.out.chg0 d7) hGm
  go_wp2_with fail
  go_at_call 86
  refine hsc.mono ?_
  rintro e w12 ⟨rfl, d8⟩
  replace d8 := d7.nil_trans d8
  go_wp2_with fail
  go_at_call 35
  refine (Q3.out _ (c08.nil_trans d8)).mono ?_
  rintro e w13 ⟨rfl, d9⟩
  replace d9 := d8.nil_trans d9
  go_wp2_with fail
  go_at_call 89
  refine (Q4.out _ (c08.nil_trans d9)).mono ?_
  rintro e w14 ⟨rfl, d10⟩
  replace d10 := d9.nil_trans d10
  go_wp2
  go_ret
  exact HN.out _ (c08.nil_trans d10)
end
end Go.Proofs.YtpklkefnmoaaaaaGreatDoor

/- MmrPlays' acts: append; drop, back. -/
namespace Go.Proofs.YtpklkefnmoaaaaaGreatDoor
open Go.RowKit
set_option linter.unusedVariables false
set_option linter.unusedSimpArgs false
section
variable {F0 : List Nat} {w0 w : World} {b rb m : Nat} {t : TS} {r : RT} {x : AM}
theorem AppP.two {w1 : World} {y : Array Value} {e : Ending} (h : Two F0 w0 w b rb t r) (hp : AppP w b t y e w1) : ∃ t', Two F0 w0 w1 b rb t' r ∧ Chg (t.foot b) w w1 := by
  obtain ⟨_, t', q1, q2, q3, q4, q5, q6, q7, q8, q9, q10, q11⟩ := hp
  exact ⟨t', h.movT q1 q10 q11, q10⟩
set_option maxRecDepth 100000 in
set_option maxHeartbeats 8000000 in
theorem actM_append (h : Two F0 w0 w b rb t r) (hr : Rel t r m) (hm : m ≤ 1000) (hk : HIs w) (hx : x.ok w) (hw : x.what = 1) : Calls Tryz.prog 17 #[.pointer (some ⟨b, 0, none⟩), .pointer (some ⟨rb, 0, none⟩), .agg x.cells] w (ActQ F0 w0 b rb (m + 1)) := by
  have hp64 := hx.p
  have hs1 := hx.hash.1
  have hs2 := hx.hash.one
  have hcs := hx.size
  have hco := hx.one
  have hc0 : Chg [] w (w.alloc (.cells x.cells 41)) := (Chg.refl _ _).alloc _
  have hB := AMB.new (w := w) hx.hash
  have hT0 := h.chg0 hc0
  have k0 := hB.c0
  rw [hw] at k0
  have hbl := hB.lt
  have hp64 := hx.p
  have hs1 := hx.hash.1
  have hs2 := hx.hash.one
  have hcs := hx.size
  have hco := hx.one
  have hc0 : Chg [] w (w.alloc (.cells x.cells 41)) := (Chg.refl _ _).alloc _
  have hB := AMB.new (w := w) hx.hash
  have hT0 := h.chg0 hc0
  have k0 := hB.c0
  rw [hw] at k0
  have hbl := hB.lt
  have hp64 := hx.p
  have hs1 := hx.hash.1
  have hs2 := hx.hash.one
  have hcs := hx.size
  have hco := hx.one
  have hc0 : Chg [] w (w.alloc (.cells x.cells 41)) := (Chg.refl _ _).alloc _
  have hB := AMB.new (w := w) hx.hash
  have hT0 := h.chg0 hc0
  have k0 := hB.c0
  rw [hw] at k0
  have hbl := hB.lt
  have hbT : w.heap.size ∉ t.foot b := fun hk => by have := h.tr.lt _ hk; omega
  have hbR : w.heap.size ∉ r.foot rb := fun hk => by have := h.rf.lt _ hk; omega
  have hxh := hx.hash
  have hsz := hr.size
  have hal := hr.al
  have hfu := hr.full
  have hln := hr.len
  have hdr : Chg [] (w.alloc (.cells x.cells 41)) (w.alloc (.cells x.cells 41)).drew := (Chg.refl _ _).drew
  have q1 := append_calls (w.alloc (.cells x.cells 41)).drew b t x.h (hT0.tr.chg0 hdr) hxh ((hk.chg0 hc0).chg0 hdr) (by omega) hfu (by omega)
  have q2 : ∀ e w1, AppP (w.alloc (.cells x.cells 41)).drew b t x.h e w1 → Calls Tryz.prog 82 #[.pointer (some ⟨rb, 0, none⟩), .agg x.h] w1 (RApP w1 rb r x.h) ∧ rng? w1 w.heap.size 1 32 = some x.h := fun e w1 hp => by
    obtain ⟨t', hT', hC'⟩ := hp.two (hT0.chg0 hdr)
    exact ⟨r6app_calls w1 rb r x.h hT'.rf hxh (by rw [hr.n]; omega) (by rw [hr.n, hln, hfu]), rng?_chg hC' hB.ch (by omega) hbT⟩
  have q3 : ∀ e w1 e2 w2, AppP (w.alloc (.cells x.cells 41)).drew b t x.h e w1 → RApP w1 rb r x.h e2 w2 → ActQ F0 w0 b rb (m + 1) (.returned (.bool true)) w2 ∧ rng? w2 w.heap.size 1 32 = some x.h := fun e w1 e2 w2 hp hq => by
    refine ⟨((hT0.chg0 hdr).app hr hp (fun _ _ => hq) (by have := t1_le t.size (by omega); omega)).act, ?_⟩
    have h1 := (q2 e w1 hp).2
    obtain ⟨_, r', _, _, _, _, _, _, hC2, _⟩ := hq
    exact rng?_chg hC2 h1 (by omega) hbR
  have q4 : rng? (w.alloc (.cells x.cells 41)) w.heap.size 1 32 = some x.h := hB.ch
  have hen : r.n = t.size := hr.n
  have Q1 := Lib.hid q1
  have Q2 := Lib.hid q2
  have Q3 := Lib.hid q3
  clear hB hx hw hT0 hc0 h hr q1 q2 q3 hk hxh hfu hln hdr
  have hen2 : ((t.size : Int) == (r.n : Int)) = true := by rw [beq_iff_eq]; omega
  have hnb : r.n ≤ 1000 := by omega
  have htb : t.size ≤ 1000 := by omega
  clear hen hsz hal
  generalize x.h = H at *
  obtain ⟨xl, rfl⟩ : ∃ xl : List Value, H = xl.toArray := ⟨H.toList, Array.toArray_toList.symm⟩
  have hu1 : Tryz.prog.underlying 36 = _ := u_Hash
  have hi1 : (Tryz.prog.info? 36).map (·.size) = some xl.length := by rw [show xl.length = 32 from by simpa using hs1]; kernel_rfl
  generalize hbx : w.alloc (.cells x.cells 41) = wb at *
  have HX := Lib.hid hbx
  go_enter Tryz.func17, Tryz.ntmps17
  go_upto_region 3 with (fail)
  clear k0
  clear hbx hcs hco hp64
  have hS0 : wb.drew.rangeAt w.heap.size 1 xl := rng?_range (show rng? wb.drew w.heap.size 1 32 = some xl.toArray from q4)
  refine wp_region_noPanic ?_
  refine wp_region_held_drew (S := (fun W => W.rangeAt w.heap.size 1 xl)) (by kernel_rfl) (by exact hS0) (fun hHeld => ?_)
  have hHeldX := hHeld
  refine wpAnyH_take (i := 0) (v := ?_) rfl (by kernel_rfl) (by kernel_rfl) (by kernel_rfl) (fun _ _ _ h => h) (Or.inl ⟨by rfl, ?_⟩) (by first | assumption | exact hHeldX) ?_
  rotate_left
  · intro w hSw
    (try dsimp only at hSw)
    go_simp
    try with_reducible rfl
  try simp only [List.getElem_toArray, List.getElem_cons_zero, List.getElem_cons_succ, Act.put, List.setIfInBounds_toArray, List.set_cons_zero, List.set_cons_succ]
  refine wpAnyH_take (i := 1) (v := ?_) rfl (by kernel_rfl) (by kernel_rfl) (by kernel_rfl) (fun _ _ _ h => h) (Or.inl ⟨by rfl, ?_⟩) (by first | assumption | exact hHeldX) ?_
  rotate_left
  · intro w hSw
    (try dsimp only at hSw)
    go_simp
    try with_reducible rfl
  try simp only [List.getElem_toArray, List.getElem_cons_zero, List.getElem_cons_succ, Act.put, List.setIfInBounds_toArray, List.set_cons_zero, List.set_cons_succ]
  refine' wpAnyH_take (i := 2) (v := _) rfl (by kernel_rfl) (by kernel_rfl) (by kernel_rfl) (fun _ _ _ h => h) (yieldsIf_load_mid (by rfl) _ _ rfl _ _ rfl _ _ ?hSz2 ?huz2 ?hdz2 ?hiz2) (by first | assumption | exact hHeldX) ?restz2
  case hSz2 => (intro w hSw; (try dsimp only at hSw); obtain hSw := hSw; assumption)
  case huz2 => assumption
  case hdz2 => rfl
  case hiz2 => assumption
  case' restz2 => skip
  try simp only [List.getElem_toArray, List.getElem_cons_zero, List.getElem_cons_succ, Act.put, List.setIfInBounds_toArray, List.set_cons_zero, List.set_cons_succ]
  refine wpAnyH_take (i := 4) (v := ?_) rfl (by kernel_rfl) (by kernel_rfl) (by kernel_rfl) (fun _ _ _ h => h) (Or.inl ⟨by rfl, ?_⟩) (by first | assumption | exact hHeldX) ?_
  rotate_left
  · intro w hSw
    (try dsimp only at hSw)
    go_simp
    try with_reducible rfl
  try simp only [List.getElem_toArray, List.getElem_cons_zero, List.getElem_cons_succ, Act.put, List.setIfInBounds_toArray, List.set_cons_zero, List.set_cons_succ]
  refine wpAnyH_take (i := 5) (v := ?_) rfl (by kernel_rfl) (by kernel_rfl) (by kernel_rfl) (fun _ _ _ h => h) (Or.inl ⟨by rfl, ?_⟩) (by first | assumption | exact hHeldX) ?_
  rotate_left
  · intro w hSw
    (try dsimp only at hSw)
    go_simp
    try with_reducible rfl
  try simp only [List.getElem_toArray, List.getElem_cons_zero, List.getElem_cons_succ, Act.put, List.setIfInBounds_toArray, List.set_cons_zero, List.set_cons_succ]
  refine' wpAnyH_take (i := 6) (v := _) rfl (by kernel_rfl) (by kernel_rfl) (by kernel_rfl) (fun _ _ _ h => h) (yieldsIf_load_mid (by rfl) _ _ rfl _ _ rfl _ _ ?hSz6 ?huz6 ?hdz6 ?hiz6) (by first | assumption | exact hHeldX) ?restz6
  case hSz6 => (intro w hSw; (try dsimp only at hSw); obtain hSw := hSw; assumption)
  case huz6 => assumption
  case hdz6 => rfl
  case hiz6 => assumption
  case' restz6 => skip
  try simp only [List.getElem_toArray, List.getElem_cons_zero, List.getElem_cons_succ, Act.put, List.setIfInBounds_toArray, List.set_cons_zero, List.set_cons_succ]
  refine wpAnyH_ready (rs := [3]) (by kernel_rfl) (by simp) ?_
  refine AllReadyH.cons rfl (fun K hK => ?_) ?_
  go_simp
  go_at_call 21; refine Q1.out.mono ?_; intro e w2 hp; have he := hp.1; subst he
  go_wp2_with fail
  refine hK.out _ _ (by exact rng?_range (Q2.out _ _ hp).2) (fun hHeld => ?_)
  clear hK K
  try simp only [List.getElem_toArray, List.getElem_cons_zero, List.getElem_cons_succ, Act.put, List.setIfInBounds_toArray, List.set_cons_zero, List.set_cons_succ]
  rotate_left
  exact AllReadyH.nil
  refine wpAnyH_ready (rs := [7]) (by kernel_rfl) (by simp) ?_
  refine AllReadyH.cons rfl (fun K hK => ?_) ?_
  go_simp
  go_at_call 82; refine (Q2.out _ _ hp).1.mono ?_; intro e2 w3 hq; have he2 := hq.1; subst he2
  go_wp2_with fail
  refine hK.out _ _ (by exact rng?_range (Q3.out _ _ _ _ hp hq).2) (fun hHeld => ?_)
  clear hK K
  try simp only [List.getElem_toArray, List.getElem_cons_zero, List.getElem_cons_succ, Act.put, List.setIfInBounds_toArray, List.set_cons_zero, List.set_cons_succ]
  rotate_left
  exact AllReadyH.nil
  refine wpAnyH_take (i := 8) (v := ?_) rfl (by kernel_rfl) (by kernel_rfl) (by kernel_rfl) (fun _ _ _ h => h) (Or.inl ⟨by rfl, ?_⟩) (by first | assumption | exact hHeldX) ?_
  rotate_left
  · intro w hSw
    (try dsimp only at hSw)
    go_simp
    try with_reducible rfl
  try simp only [List.getElem_toArray, List.getElem_cons_zero, List.getElem_cons_succ, Act.put, List.setIfInBounds_toArray, List.set_cons_zero, List.set_cons_succ]
  refine wpAnyH_take (i := 9) (v := ?_) rfl (by kernel_rfl) (by kernel_rfl) (by kernel_rfl) (fun _ _ _ h => h) (Or.inl ⟨by rfl, ?_⟩) (by first | assumption | exact hHeldX) ?_
  rotate_left
  · intro w hSw
    (try dsimp only at hSw)
    go_simp
    try with_reducible rfl
  try simp only [List.getElem_toArray, List.getElem_cons_zero, List.getElem_cons_succ, Act.put, List.setIfInBounds_toArray, List.set_cons_zero, List.set_cons_succ]
  refine wpAnyH_done (by kernel_rfl) ?_ _
  refine NoPanic.normal ?_
  go_wp2
  go_ret
  exact (Q3.out _ _ _ _ hp hq).1
end
end Go.Proofs.YtpklkefnmoaaaaaGreatDoor

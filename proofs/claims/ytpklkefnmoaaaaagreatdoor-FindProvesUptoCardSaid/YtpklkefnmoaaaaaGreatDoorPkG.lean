/- Texts put into one by pack.py: TrF MpA StK StL StG StH StI StM MpB. -/
import Derived.Test.YtpklkefnmoaaaaaGreatDoorTrEp
import Derived.Test.YtpklkefnmoaaaaaGreatDoorPkB
import Derived.Test.YtpklkefnmoaaaaaGreatDoorPkE
/- A tree: Old, Size. -/
namespace Go.Proofs.YtpklkefnmoaaaaaGreatDoor
open Go.RowKit
set_option linter.unusedVariables false
set_option linter.unusedSimpArgs false

def OldP (w : World) (t : TS) (n : Nat) (e : Ending) (w' : World) : Prop :=
  ((∀ p ∈ peaksN n, t.s.getE p = 0) ∧ Res w [] (.tuple #[.agg (bagR t.wd n ((peaksN n).map t.s.getH)), .int .i64 (bagE n ((peaksN n).map t.s.getH))]) e w') ∨
  (∃ (i : Nat) (h : i < (peaksN n).length), (∀ j (hj : j < i), t.s.getE (peaksN n)[j] = 0) ∧ t.s.getE (peaksN n)[i] ≠ 0 ∧ Res w [] (.tuple #[.agg zeroHash, .int .i64 (t.s.getE (peaksN n)[i])]) e w')
set_option maxRecDepth 100000 in
theorem tOld_far (w : World) (b : Nat) (t : TS) (n : Nat) (ht : TrIs w b t) (hn : t.size < n) (h2 : n < 18446744073709551616) (hs : t.size ≤ 4611686018427387904) : Calls Tryz.prog 91 #[.pointer (some ⟨b, 0, none⟩), .int .u64 n] w (Res w [] (.tuple #[.agg zeroHash, .int .i64 30])) := by
  have c2 := blk_cell ht.mem 2 rfl
  have hb := blk_lt ht.mem
  have hd : decide ((t.size : Int) < (n : Int)) = true := decide_eq_true (by omega)
  go_enter Tryz.func91, Tryz.ntmps91
  go_wp2
  refine bodyPost_ret (res_Hash2 rfl _ _ rfl (rng?_alloc_at _ _ _ _ _ rfl zeroHash_size)) rfl ⟨rfl, (Chg.refl _ _).alloc _⟩
set_option maxRecDepth 100000 in
set_option maxHeartbeats 4000000 in
theorem tOld_calls (w : World) (b : Nat) (t : TS) (n : Nat) (ht : TrIs w b t) (hn : n ≤ t.size) (hs : t.size ≤ 4611686018427387904) (hk : HIs w) : Calls Tryz.prog 91 #[.pointer (some ⟨b, 0, none⟩), .int .u64 n] w (OldP w t n) := by
  have c1 := blk_cell ht.mem 1 rfl
  have c2 := blk_cell ht.mem 2 rfl
  have hb := blk_lt ht.mem
  have hc0 : Chg [] w (w.alloc (.cells zeroHash 36)) := (Chg.refl _ _).alloc _
  have hpk := tpeaks_calls (w.alloc (.cells zeroHash 36)) b t n (ht.chg0 hc0) (by omega)
  have hd : decide ((t.size : Int) < (n : Int)) = false := decide_eq_false (by omega)
  have hm0 := may_alloc_at w w.heap.size 32 zeroHash 36 rfl zeroHash_size
  have hbg := fun (W : World) (v : Value) (hs : List (Array Value)) (hW : Chg [] w W) (hv : HsIs W v hs) (hl : hs.length ≤ 1099511627776) => bag_any W t.wd n v hs hv (by omega) hl (hk.chg0 hW)
  have hRi : IsHash (bagR t.wd n ((peaksN n).map t.s.getH)) := bagR_is _ _ (fun x hx => by
    obtain ⟨p, _, rfl⟩ := List.mem_map.1 hx
    exact IsHash.getH ht.st p)
  have hll : ((peaksN n).map t.s.getH).length ≤ 1099511627776 := by rw [List.length_map]; exact Nat.le_trans (pkL_len _ 63) (by decide)
  have d1 := fun (W : World) (hc : Chg [] w W) => (hc.cell (p := ⟨b, 1, none⟩) hb (by simp)).trans c1
  have HD := Lib.hid d1
  have HBG := Lib.hid hbg
  clear d1 hbg ht
  by_cases hall : ∀ p ∈ peaksN n, t.s.getE p = 0
  · have hfin : ∀ (e : Ending) (w' : World), TPeaksP (w.alloc (.cells zeroHash 36)) t.s (peaksN n) e w' → ∃ v, e = .returned (.tuple #[v, .int .i64 0]) ∧ HsIs w' v ((peaksN n).map t.s.getH) ∧ Chg [] (w.alloc (.cells zeroHash 36)) w' := by
      intro e w' h
      rcases h with ⟨v, h1, rfl, h2, h3⟩ | ⟨i, hi, h1, h2, rfl, h3⟩
      · exact ⟨v, rfl, h2.hs, h3⟩
      · exact absurd (hall _ (List.getElem_mem hi)) h2
    have HF := Lib.hid hfin
    have HA := Lib.hid hall
    have hgoal : ∀ (e : Ending) (w' : World), Res w [] (.tuple #[.agg (bagR t.wd n ((peaksN n).map t.s.getH)), .int .i64 (bagE n ((peaksN n).map t.s.getH))]) e w' → OldP w t n e w' := fun e w' h => .inl ⟨HA.out, h⟩
    refine Calls.mono ?_ hgoal
    clear hfin hall hgoal
    generalize (peaksN n).map t.s.getH = hs at *
    generalize hR : bagR t.wd n hs = R at *
    generalize hE : bagE n hs = E at *
    have HRE : Shut (bagR t.wd n hs = R ∧ bagE n hs = E) := ⟨hR, hE⟩
    clear hR hE
    have hR1 := hRi.1
    have hR2 := hRi.one
    go_enter Tryz.func91, Tryz.ntmps91
    go_wp2_with (go_at_call 128; refine hpk.mono ?_; intro e w1 hp1; obtain ⟨v, he, h1, h2⟩ := HF.out e w1 hp1; subst he; have hC1 := hc0.nil_trans h2; have e1 := HD.out _ hC1; have hb1 := Nat.lt_of_lt_of_le hb hC1.size)
    go_at_call 120
    refine (HBG.out _ v hs hC1 h1 hll).mono ?_
    rintro e w3 ⟨rfl, hc3⟩
    rw [HRE.out.1, HRE.out.2]
    have hm3 := may_chg (h2.nil_trans hc3) hm0 (by omega) (by simp)
    go_wp2
    refine bodyPost_ret (res_Hash2 rfl _ _ rfl (rng?_setRng_same _ _ _ _ _ hm3 hR1)) rfl ⟨rfl, ?_⟩
    exact (hC1.nil_trans hc3).setRng (.inr (Nat.le_refl _)) _ _
  · have hfin : ∀ (e : Ending) (w' : World), TPeaksP (w.alloc (.cells zeroHash 36)) t.s (peaksN n) e w' → ∃ E : Int, E ≠ 0 ∧ e = .returned (.tuple #[.slice none 0 0, .int .i64 E]) ∧ Chg [] (w.alloc (.cells zeroHash 36)) w' ∧ (∀ w'', Res w [] (.tuple #[.agg zeroHash, .int .i64 E]) (.returned (.tuple #[.agg zeroHash, .int .i64 E])) w'' → OldP w t n (.returned (.tuple #[.agg zeroHash, .int .i64 E])) w'') := by
      intro e w' h
      rcases h with ⟨v, h1, rfl, h2, h3⟩ | ⟨i, hi, h1, h2, rfl, h3⟩
      · exact absurd h1 hall
      · exact ⟨_, h2, rfl, h3, fun w'' hw => .inr ⟨i, hi, h1, h2, hw⟩⟩
    have HF := Lib.hid hfin
    clear hfin hall hRi hll
    go_enter Tryz.func91, Tryz.ntmps91
    go_wp2_with (fail)
    go_at_call 128
    refine hpk.mono ?_
    intro e w1 hp1
    obtain ⟨E, hE, he, h2, h4⟩ := HF.out e w1 hp1
    subst he
    have hE2 : (E != 0) = true := by rw [bne_iff_ne]; exact hE
    have hm1 := may_chg h2 hm0 (by omega) (by simp)
    have H4 := Lib.hid h4
    clear hp1 h4
    go_wp2
    refine bodyPost_ret (res_Hash2 rfl _ _ rfl (rng?_setRng_same _ _ _ _ _ hm1 zeroHash_size)) rfl ?_
    exact H4.out _ ⟨rfl, (hc0.nil_trans h2).setRng (.inr (Nat.le_refl _)) _ _⟩
theorem tSize_calls (w : World) (b : Nat) (t : TS) (ht : TrIs w b t) : Calls Tryz.prog 37 #[.pointer (some ⟨b, 0, none⟩)] w (Res w [] (.int .u64 t.size)) := by
  have c2 := blk_cell ht.mem 2 rfl
  have hb := blk_lt ht.mem
  go_enter Tryz.func37, Tryz.ntmps37
  go_wp2
  go_ret
  exact ⟨rfl, Chg.refl _ _⟩
end Go.Proofs.YtpklkefnmoaaaaaGreatDoor

/- The document's tree in memory; its nodes as a view. -/
namespace Go.Proofs.YtpklkefnmoaaaaaGreatDoor
open Go.RowKit
set_option linter.unusedVariables false
set_option linter.unusedSimpArgs false

def vd (ns : List DN) : NV := ⟨ns.length, fun p => ((ns[p]?).join).map (·.1)⟩
def pd (ns : List DN) (p : Nat) : Nat := dnK ((ns[p]?).join)
theorem jn_app (ns : List DN) (q : Nat) (x : DN) : ((ns ++ [x])[q]?).join = if q = ns.length then x else (ns[q]?).join := by
  by_cases h : q < ns.length
  · rw [List.getElem?_append_left h, if_neg (by omega)]
  · by_cases e : q = ns.length
    · subst e; simp
    · rw [if_neg e, List.getElem?_eq_none (by simp; omega), List.getElem?_eq_none (by omega)]
theorem jn_set (ns : List DN) (p q : Nat) (x : DN) : ((ns.set p x)[q]?).join = if q = p ∧ p < ns.length then x else (ns[q]?).join := by
  rw [List.getElem?_set]
  by_cases e : p = q
  · subst e
    by_cases hl : p < ns.length
    · rw [if_pos rfl, if_pos hl, if_pos ⟨rfl, hl⟩]; rfl
    · rw [if_pos rfl, if_neg hl, if_neg (fun h => hl h.2), List.getElem?_eq_none (by omega)]
  · rw [if_neg e, if_neg (fun h => e h.1.symm)]
theorem jn_ge {ns : List DN} {q : Nat} (h : ns.length ≤ q) : (ns[q]?).join = none := by rw [List.getElem?_eq_none h]; rfl
theorem vd_push (ns : List DN) (H : Array Value) : vd (ns ++ [some (H, 0)]) = (vd ns).push H := by
  unfold vd NV.push
  congr 1
  · simp
  · funext q
    rw [jn_app]
    split <;> rfl
theorem pd_push (ns : List DN) (H : Array Value) (p : Nat) : pd (ns ++ [some (H, 0)]) p = pd ns p := by
  unfold pd
  rw [jn_app]
  split
  · rename_i e; rw [jn_ge (by omega)]; rfl
  · rfl
theorem vd_get (ns : List DN) (p : Nat) : (vd ns).get p = dnH ((ns[p]?).join) := by
  unfold vd NV.get
  by_cases h : p < ns.length
  · rw [if_pos h]
    show (((ns[p]?).join).map (·.1)).getD zeroHash = _
    cases (ns[p]?).join <;> rfl
  · rw [if_neg h, jn_ge (by omega)]
    rfl

/-- The document's tree: its store's block, its store, its width, its size. -/
structure RT where
  c : Nat
  d : DS
  wd : Int
  n : Nat
def RT.foot (r : RT) (b : Nat) : List Nat := b :: r.d.foot r.c
structure RtIs (w : World) (b : Nat) (r : RT) : Prop where
  mem : w.heap[b]? = some (.cells #[.int .i64 r.wd, .int .u64 r.n, .pointer (some ⟨r.c, 0, none⟩)] 52 (0, 0))
  st : DIs w r.c r.d
  apart : b ∉ r.d.foot r.c
theorem RtIs.chg {w w' : World} {b : Nat} {r : RT} {F : List Nat} (h : RtIs w b r) (hc : Chg F w w') (hF : ∀ k ∈ r.foot b, k ∉ F) : RtIs w' b r :=
  ⟨hc.at h.mem (hF b (by simp [RT.foot])), h.st.chg hc (fun k hk => hF k (by simp only [RT.foot, List.mem_cons]; exact .inr hk)), h.apart⟩
theorem RtIs.chg0 {w w' : World} {b : Nat} {r : RT} (h : RtIs w b r) (hc : Chg [] w w') : RtIs w' b r := h.chg hc (by simp)
theorem RtIs.lt {w : World} {b : Nat} {r : RT} (h : RtIs w b r) : ∀ k ∈ r.foot b, k < w.heap.size := by
  intro k hk
  simp only [RT.foot, List.mem_cons] at hk
  rcases hk with rfl | hk
  · exact blk_lt h.mem
  · exact h.st.lt k hk

/-- Both trees, whatever they hold, changed only in F0 since w0. -/
structure Two (F0 : List Nat) (w0 w : World) (b rb : Nat) (t : TS) (r : RT) : Prop where
  tr : TrIs w b t
  rf : RtIs w rb r
  ap : ∀ k ∈ t.foot b, k ∉ r.foot rb
  chg : Chg F0 w0 w
  ownT : ∀ k ∈ t.foot b, k ∈ F0 ∨ w0.heap.size ≤ k
  ownR : ∀ k ∈ r.foot rb, k ∈ F0 ∨ w0.heap.size ≤ k
section
variable {F0 : List Nat} {w0 w w' : World} {b rb : Nat} {t t' : TS} {r r' : RT}
theorem Two.chg0 (h : Two F0 w0 w b rb t r) (hc : Chg [] w w') : Two F0 w0 w' b rb t r := ⟨h.tr.chg0 hc, h.rf.chg0 hc, h.ap, h.chg.nil_trans hc, h.ownT, h.ownR⟩
theorem Two.here (h : Two F0 w0 w b rb t r) : Two (t.foot b ++ r.foot rb) w w b rb t r := ⟨h.tr, h.rf, h.ap, Chg.refl _ _, fun k hk => .inl (List.mem_append_left _ hk), fun k hk => .inl (List.mem_append_right _ hk)⟩
/-- The program's tree has moved. -/
theorem Two.movT (h : Two F0 w0 w b rb t r) (h1 : TrIs w' b t') (h2 : Chg (t.foot b) w w') (h3 : ∀ k ∈ t'.foot b, k ∈ t.foot b ∨ w.heap.size ≤ k) : Two F0 w0 w' b rb t' r := by
  have hlt := h.rf.lt
  refine ⟨h1, h.rf.chg h2 (fun k hk hk2 => h.ap k hk2 hk), fun k hk hk2 => ?_, h.chg.trans h2 h.ownT, fun k hk => ?_, h.ownR⟩
  · rcases h3 k hk with q | q
    · exact h.ap k q hk2
    · have := hlt k hk2; omega
  · rcases h3 k hk with q | q
    · exact h.ownT k q
    · have := h.chg.size; right; omega
/-- The document's tree has moved. -/
theorem Two.movR (h : Two F0 w0 w b rb t r) (h1 : RtIs w' rb r') (h2 : Chg (r.foot rb) w w') (h3 : ∀ k ∈ r'.foot rb, k ∈ r.foot rb ∨ w.heap.size ≤ k) : Two F0 w0 w' b rb t r' := by
  have hlt := h.tr.lt
  refine ⟨h.tr.chg h2 (fun k hk hk2 => h.ap k hk hk2), h1, fun k hk hk2 => ?_, h.chg.trans h2 h.ownR, h.ownT, fun k hk => ?_⟩
  · rcases h3 k hk2 with q | q
    · exact h.ap k hk q
    · have := hlt k hk; omega
  · rcases h3 k hk with q | q
    · exact h.ownR k q
    · have := h.chg.size; right; omega
end
/-- Both trees hold the same. -/
structure Rel (t : TS) (r : RT) (m : Nat) : Prop where
  wd : r.wd = t.wd
  n : r.n = t.size
  view : vd r.d.ns = t.s.view
  pinT : ∀ p, t.s.pin p = 0
  pinR : ∀ p, pd r.d.ns p = 0
  full : t.s.n = nodesN t.size
  size : t.size ≤ m
  al : t.s.alive ≤ 64 * m
theorem Rel.up {t : TS} {r : RT} {m m' : Nat} (h : Rel t r m) (hm : m ≤ m') : Rel t r m' := ⟨h.wd, h.n, h.view, h.pinT, h.pinR, h.full, Nat.le_trans h.size hm, Nat.le_trans h.al (by omega)⟩
section
variable {t : TS} {r : RT} {m : Nat}
theorem Rel.len (h : Rel t r m) : r.d.ns.length = t.s.n := congrArg NV.n h.view
theorem Rel.node (h : Rel t r m) (p : Nat) : t.s.node p = ((r.d.ns[p]?).join).map (·.1) := (congrFun (congrArg NV.node h.view) p).symm
theorem Rel.live (h : Rel t r m) (p : Nat) : (t.s.node p).isSome = ((r.d.ns[p]?).join).isSome := by rw [h.node]; cases (r.d.ns[p]?).join <;> rfl
theorem Rel.getH (h : Rel t r m) (p : Nat) : t.s.getH p = dnH ((r.d.ns[p]?).join) := by rw [← view_get, ← h.view, vd_get]
theorem Rel.getE (h : Rel t r m) (p : Nat) : t.s.getE p = if p < r.d.ns.length then (if ((r.d.ns[p]?).join).isSome then 0 else 50) else 31 := by
  unfold SS.getE
  rw [h.len, h.live]
theorem Rel.getE' (h : Rel t r m) (p : Nat) : t.s.getE p = r.d.getE p := h.getE p
theorem Rel.getH' (h : Rel t r m) (p : Nat) : t.s.getH p = dnH (r.d.nd p) := h.getH p
end
end Go.Proofs.YtpklkefnmoaaaaaGreatDoor

/- The store: kill. -/
namespace Go.Proofs.YtpklkefnmoaaaaaGreatDoor
open Go.RowKit
set_option linter.unusedVariables false
set_option linter.unusedSimpArgs false

theorem kill_dead (b p : Nat) (s : SS) (w : World) (hst : StIs w b s) (hp : p < 18446744073709551616) (hn : s.node p = none) :
    Calls Tryz.prog 107 #[.pointer (some ⟨b, 0, none⟩), .int .u64 p] w (Res w [] (.bool false)) := by
  have hf := Lib.hid (node_nil hn)
  clear hn
  go_enter Tryz.func107, Tryz.ntmps107
  go_wp2_with (go_at_call 171; refine (find_calls b p s _ hst hp).mono ?_; rintro e w1 ⟨rfl, hc⟩; rw [hf.out])
  go_ret
  exact ⟨rfl, hc⟩

theorem set_get (ns : List (Option (Array Value))) (a : Nat) (i : Nat) (ha : a < ns.length) : ((ns.set a none)[i]?).join = if i = a then none else (ns[i]?).join := by
  by_cases h : i = a
  · subst h; rw [if_pos rfl, List.getElem?_set_self ha]; rfl
  · rw [if_neg h, List.getElem?_set_ne (fun e => h e.symm)]
theorem set_live (ns : List (Option (Array Value))) (a : Nat) {h : Array Value} (hn : (ns[a]?).join = some h) : liveOf ns = liveOf (ns.set a none) + 1 ∧ a < ns.length := by
  have ha : a < ns.length := by
    by_cases h : a < ns.length
    · exact h
    · rw [List.getElem?_eq_none (by omega)] at hn; cases hn
  rw [List.getElem?_eq_getElem ha] at hn
  have hn : ns[a] = some h := by simpa using hn
  refine ⟨?_, ha⟩
  unfold liveOf
  rw [List.countP_set ha]
  have : 0 < List.countP (·.isSome) ns := List.countP_pos_iff.2 ⟨ns[a], List.getElem_mem ha, by rw [hn]; rfl⟩
  simp [hn]
  omega

theorem kill_ck {w' : World} {c nb cap k at_ : Nat} {ns : List (Option (Array Value))} {cur : Array Value} {lv : Int}
    (hC : w'.heap[c]? = some (.cells #[.slice (some ⟨nb, 0, none⟩) ns.length cap, .int .i64 lv] 218 (0, 0))) (hlv : lv = ((liveOf (ns.set at_ none) : Nat) : Int))
    (hN : w'.heap[nb]? = some (.cells (cur.toList.take (at_ * 33) ++ (nodeOf zeroHash false).toList ++ cur.toList.drop (at_ * 33 + 33)).toArray 209 (0, 0)))
    (hn : ns.length ≤ cap) (hm : cap ≤ maxLen) (hs : cur.size = cap * 33) (ht : cur.toList.take (ns.length * 33) = cellsOf ns) (hI : ∀ q, some q ∈ ns → IsHash q) (ha : at_ < ns.length) :
    CkIs w' ⟨k, c, nb, cap, ns.set at_ none⟩ := by
  have hl : (ns.set at_ none).length = ns.length := by simp
  have hI' : ∀ q, some q ∈ ns.set at_ none → IsHash q := by
    intro q hq
    rcases List.mem_or_eq_of_mem_set hq with h | h
    · exact hI q h
    · cases h
  have hz : (nodeOf zeroHash false).toList.length = 33 := by simpa using nodeOf_size zeroHash_size false
  refine ⟨?_, ⟨?_, .inr ⟨nb, cap, _, by rw [hl], Nat.zero_le _, hN, by rw [hl]; exact hn, hm, ?_, ?_⟩⟩, hI', hm⟩
  · rw [hC, hlv, hl]
  · rw [cellsOf_length hI']
  · simp only [List.size_toArray, List.length_append, List.length_take, List.length_drop, Array.length_toList, hz, hs]
    omega
  · simp only [hl]
    rw [cellsOf_set hI ha, ← ht, nodeCells_none]
    exact take_mid cur.toList _ (at_ * 33) _ hz (by omega) (by simp; omega)

theorem del_close {w w' : World} {b p : Nat} {s : SS} {l1 l2 : List Ck} {x : Ck} {F : List Nat} {h : Array Value}
    (hst : StIs w b s) (hx : s.look p = some x) (hn : (x.ns[qa s.log p]?).join = some h) (hone : liveOf x.ns = 1) (hs : s.cks = l1 ++ x :: l2) (hk : ∀ y ∈ l1 ++ l2, y.k ≠ qk s.log p)
    (hch : Chg F w w') (hF : ∀ k ∈ F, k ∈ s.foot b ∨ w.heap.size ≤ k) (hF1 : ∀ y ∈ l1 ++ l2, y.c ∉ F ∧ y.nb ∉ F) (hF2 : s.pm ∉ F)
    (hb : w'.heap[b]? = some (.cells #[.int .i64 s.log, .int .u64 s.n, .int .u64 (s.alive - 1 : Nat), .map (some s.cm), .map (some s.pm)] 150 (0, 0)))
    (hm : MapIs encK w' s.cm ((l1 ++ l2).map fun x => (x.k, .pointer (some ⟨x.c, 0, none⟩)))) :
    ∃ s', StIs w' b s' ∧ PutRel s s' p none (s.alive - 1) ∧ Mv (s.foot b) (s'.foot b) w w' := by
  obtain ⟨hb0, hm0, hpm, hck, hap, hok⟩ := hst
  have hin : ∀ y ∈ l1 ++ l2, y ∈ s.cks := by
    intro y hy
    rw [hs]
    rcases List.mem_append.1 hy with q | q <;> simp [q]
  have hal : ((l1 ++ l2).map fun x => liveOf x.ns).sum = s.alive - 1 := by
    unfold SS.alive
    rw [hs]
    simp [hone]
    omega
  have hnode : ∀ q, ({ s with cks := l1 ++ l2 } : SS).node q = if q = p then none else s.node q := by
    intro q
    have hf1 : ∀ (l : List Ck), (∀ y ∈ l, y.k ≠ qk s.log p) → qk s.log q = qk s.log p → l.find? (fun x => decide (x.k = qk s.log q)) = none := by
      intro l hl e
      rw [List.find?_eq_none]
      intro y hy
      simp only [decide_eq_true_eq]
      rw [e]
      exact hl y hy
    have hl1 := hf1 l1 (fun y hy => hk y (by simp [hy]))
    have hl2 := hf1 l2 (fun y hy => hk y (by simp [hy]))
    have hxk : x.k = qk s.log p := (look_mem hx).2
    unfold SS.node SS.look
    simp only [hs, List.find?_append, List.find?_cons]
    by_cases e : qk s.log q = qk s.log p
    · rw [hl1 e, hl2 e]
      simp only [Option.none_or, Option.bind_none, hxk, e, decide_true, Option.bind_some]
      by_cases ea : qa s.log q = qa s.log p
      · rw [if_pos (qkqa e ea)]
      · rw [if_neg (fun q' => ea (by rw [q']))]
        obtain ⟨h1, h2⟩ := set_live x.ns _ hn
        rw [hone] at h1
        have h0 : liveOf (x.ns.set (qa s.log p) none) = 0 := by omega
        have h3 := set_get x.ns (qa s.log p) (qa s.log q) h2
        rw [if_neg ea] at h3
        rw [← h3]
        cases hq : (x.ns.set (qa s.log p) none)[qa s.log q]? with
        | none => rfl
        | some o =>
          cases o with
          | none => rfl
          | some u =>
            exfalso
            have : 0 < liveOf (x.ns.set (qa s.log p) none) := List.countP_pos_iff.2 ⟨some u, List.mem_of_getElem? hq, rfl⟩
            omega
    · rw [if_neg (fun q' => e (by rw [q']))]
      have e' : ¬ qk s.log p = qk s.log q := fun q' => e q'.symm
      simp only [hxk, e', decide_false]
  refine ⟨{ s with cks := l1 ++ l2 }, ⟨?_, hm, hpm.chg hch hF2, ?_, ?_, ?_⟩, ⟨rfl, rfl, rfl, hal, hnode⟩, hch.mono ?_, ?_⟩
  · rw [hb]
    unfold SS.alive
    simp only [hal]
    rfl
  · intro y hy
    have := hF1 y hy
    exact (hck y (hin y hy)).chg hch this.1 this.2
  · refine ⟨hap.head, fun y hy => hap.each y (hin y hy), ?_⟩
    have h2 := hap.two
    rw [hs] at h2
    exact h2.sublist (List.Sublist.append (List.Sublist.refl _) (List.sublist_cons_self _ _))
  · refine ⟨hok.log, hok.n, fun y hy => hok.key y (hin y hy), hok.pin, ?_, by unfold SS.alive; simp only [hal]; exact Nat.le_trans (Nat.sub_le _ _) hok.al⟩
    intro q hq
    rw [hnode q] at hq
    by_cases e : q = p
    · rw [if_pos e] at hq; cases hq
    · rw [if_neg e] at hq; exact hok.top q hq
  · intro k hk hlt
    rcases hF k hk with q | q
    · exact q
    · omega
  · intro k hk
    left
    simp only [SS.foot, List.mem_cons, List.mem_flatMap, List.not_mem_nil, or_false] at hk ⊢
    rcases hk with q | q | q | ⟨y, hy, hky⟩
    · exact .inl q
    · exact .inr (.inl q)
    · exact .inr (.inr (.inl q))
    · exact .inr (.inr (.inr ⟨y, hin y hy, hky⟩))

def KillPost (w : World) (b : Nat) (s : SS) (p : Nat) (e : Ending) (w' : World) : Prop :=
  e = .returned (.bool true) ∧ ∃ s', StIs w' b s' ∧ PutRel s s' p none (s.alive - 1) ∧ Mv (s.foot b) (s'.foot b) w w'
end Go.Proofs.YtpklkefnmoaaaaaGreatDoor

/- The store: kill of a node that lives. -/
namespace Go.Proofs.YtpklkefnmoaaaaaGreatDoor
open Go.RowKit
set_option linter.unusedVariables false
set_option linter.unusedSimpArgs false

set_option maxRecDepth 100000 in
set_option maxHeartbeats 1000000 in
theorem kill_live (b p : Nat) (s : SS) (w : World) (hst : StIs w b s) (hp : p < 18446744073709551616) {h : Array Value} (hno : s.node p = some h) :
    Calls Tryz.prog 107 #[.pointer (some ⟨b, 0, none⟩), .int .u64 p] w (KillPost w b s p) := by
  have hb := hst.blt
  have hs := hst.2.2.2.2.2.log
  have hn0 := hno
  unfold SS.node at hn0
  rw [Option.bind_eq_some_iff] at hn0
  obtain ⟨x, hlk, hxn⟩ := hn0
  obtain ⟨hx, hxk⟩ := look_mem hlk
  obtain ⟨hlv, hatl⟩ := set_live x.ns _ hxn
  have hfp : s.fptr p = some ⟨x.nb, qa s.log p * 33, none⟩ := by
    unfold SS.fptr
    rw [hlk]
    simp [hxn]
  have hck := hst.2.2.2.1 x hx
  have hap := hst.2.2.2.2.1
  have hea := hap.each x hx
  obtain ⟨hC, ⟨hl5, hr5 | ⟨g, cap5, cur5, hv5, _, hg5, hn5, hm5, hs5, ht5⟩⟩, hI, hcap⟩ := hck
  · simp at hr5
  simp only [Value.slice.injEq, Option.some.injEq, Addr.mk.injEq, and_true, true_and] at hv5
  obtain ⟨rfl, rfl⟩ := hv5
  have hltf := hst.lt
  have hfx : x.c ∈ s.foot b ∧ x.nb ∈ s.foot b := by
    simp only [SS.foot, List.mem_cons, List.mem_flatMap, List.not_mem_nil, or_false]
    exact ⟨.inr (.inr (.inr ⟨x, hx, .inl rfl⟩)), .inr (.inr (.inr ⟨x, hx, .inr rfl⟩))⟩
  have hxc := hltf _ hfx.1
  have hxb := hltf _ hfx.2
  have hcm := hltf s.cm (by simp [SS.foot])
  have hf := Lib.hid hfp
  have hlive := Lib.hid hlv
  have HXK := Lib.hid hxk
  have HLK := Lib.hid hlk
  have HXN := Lib.hid hxn
  have HV5 := Lib.hid hl5
  have HS5 := Lib.hid hs5
  have HT5 := Lib.hid ht5
  have hlen : x.ns.length ≤ 65536 := by
    have := (hst.2.2.2.2.2.key x hx).1
    have h2 : 2 ^ s.log ≤ 2 ^ 16 := Nat.pow_le_pow_right (by omega) hs
    omega
  have hle : liveOf x.ns ≤ 65536 := Nat.le_trans List.countP_le_length hlen
  have hap1 : 0 < s.alive := by
    have h1 : liveOf x.ns ≤ s.alive := by
      unfold SS.alive
      obtain ⟨l1, l2, hsp, _⟩ := find_split hlk
      rw [hsp]
      simp
      omega
    omega
  have hal := hst.2.2.2.2.2.al
  have hmay : may w x.nb (qa s.log p * 33) 33 = true := may_row _ _ hg5 (by rw [hs5]; omega)
  clear hno hfp hlv hxk hlk hxn hl5 hs5 ht5
  go_enter Tryz.func107, Tryz.ntmps107
  go_wp2_with (first
    | (go_at_call 171; refine (find_calls b p s _ hst hp).mono ?_; rintro e w1 ⟨rfl, hc1⟩; rw [hf.out]; have hmay1 := may_chg hc1 hmay (by omega) (by simp))
    | (go_at_call 173; refine (spot_calls _ s.log _ _ hs hp ?q1 ?q2).mono ?_; rotate_left 2; rintro e w2 ⟨rfl, hc2⟩))
  case q1 => rw [setRng_size]; exact (hst.chg0 hc1).blt
  case q2 => rw [cell?_setRng_other _ _ _ _ _ (by exact fun e => hea.2.2.2.2.1 e.symm)]; exact (hst.chg0 hc1).cell0
  have hB1 := hc1.at hst.1 (by simp)
  have hC1 := hc1.at hC (by simp)
  have hN1 := hc1.at hg5 (by simp)
  have hM1 := hst.2.1.chg hc1 (by simp)
  have hz : (nodeOf zeroHash false).size = 33 := nodeOf_size zeroHash_size false
  have hN2 := setRng_heap hN1 (qa s.log p * 33) (nodeOf zeroHash false) (by rw [HS5.out, hz]; omega)
  rw [hz] at hN2
  have hcF : Chg [x.nb] w1 (setRng w1 x.nb (qa s.log p * 33) (nodeOf zeroHash false)) := setRng_chg _ _ _ _
  have hcF2 : Chg [x.nb] w1 w2 := hcF.nil_trans hc2
  have hN2 := hc2.at hN2 (by simp)
  generalize hW3 : World.alloc w2 _ = w3
  have hc3 : Chg [x.nb] w1 w3 := by rw [← hW3]; exact hcF2.alloc _
  have hB3 := hc3.at hB1 (by simpa using hea.2.2.2.2.1.symm)
  have hC3 := hc3.at hC1 (by simpa using hea.1)
  have hM3 := hM1.chg hc3 (by simpa using hea.2.2.2.2.2.1.symm)
  have hN3 : w3.heap[x.nb]? = some (.cells (cur5.toList.take (qa s.log p * 33) ++ (nodeOf zeroHash false).toList ++ cur5.toList.drop (qa s.log p * 33 + 33)).toArray 209 (0, 0)) := by rw [← hW3]; exact blk_alloc hN2 _
  have hk3 : w3.cell? ⟨w2.heap.size, 0, none⟩ = some (.int .u64 (qk s.log p)) := by rw [← hW3]; simp
  have hcw : Chg [x.nb] w w3 := (hc1.of_nil).trans hc3 (by simp)
  have hl3 : ∀ n, (Instr.lookup 148 (.map (some s.cm)) (.agg #[.int .u64 (qk s.log p)]) false).run Tryz.prog (w3.drewN n) = .ok (.pointer (some ⟨x.c, 0, none⟩)) (w3.drewN n) := by
    intro n
    have := (hM3.chg ((Chg.refl [] w3).drewN n) (by simp)).look encK_law u_mapc z_pchunk (qk s.log p) false
    rw [mget_map] at this
    have e : (s.cks.find? fun x => decide (x.k = qk s.log p)) = some x := HLK.out
    rw [e] at this
    exact this
  have hkb : b < w2.heap.size := by have := hcF2.size; have := hc1.size; omega
  have hkc : x.c < w2.heap.size := by have := hcF2.size; have := hc1.size; omega
  clear hW3 hB1 hC1 hN1 hM1 hN2 hc2 hcF hcF2 hmay1 hmay hc3 hc1
  have hb3 : w3.cell? ⟨b, 3, none⟩ = some (.map (some s.cm)) := blk_cell hB3 3 rfl
  go_quiet (fail)
  clear hl3
  generalize hW4 : World.drewN w3 _ = w4
  have hB4 : w4.heap[b]? = some (.cells #[.int .i64 s.log, .int .u64 s.n, .int .u64 s.alive, .map (some s.cm), .map (some s.pm)] 150 (0, 0)) := by rw [← hW4]; exact hB3
  have hC4 : w4.heap[x.c]? = some (.cells #[.slice (some ⟨x.nb, 0, none⟩) x.ns.length x.cap, .int .i64 (liveOf x.ns)] 218 (0, 0)) := by rw [← hW4]; exact hC3
  have hN4 : w4.heap[x.nb]? = some (.cells (cur5.toList.take (qa s.log p * 33) ++ (nodeOf zeroHash false).toList ++ cur5.toList.drop (qa s.log p * 33 + 33)).toArray 209 (0, 0)) := by rw [← hW4]; exact hN3
  have hM4 : MapIs encK w4 s.cm (s.cks.map fun x => (x.k, .pointer (some ⟨x.c, 0, none⟩))) := by rw [← hW4]; exact hM3.chg ((Chg.refl [] w3).drewN _) (by simp)
  have hk4 : w4.cell? ⟨w2.heap.size, 0, none⟩ = some (.int .u64 (qk s.log p)) := by rw [← hW4]; exact hk3
  have hcw4 : Chg [x.nb] w w4 := by rw [← hW4]; exact hcw.drewN _
  clear hW4 hB3 hC3 hN3 hM3 hk3 hb3 hcw
  have hc40 : w4.cell? ⟨x.c, 1, none⟩ = some (.int .i64 (liveOf x.ns)) := blk_cell hC4 1 rfl
  have hc4f := blk_frozen hC4 1
  have hb42 : w4.cell? ⟨b, 2, none⟩ = some (.int .u64 s.alive) := blk_cell hB4 2 rfl
  have hb43 : w4.cell? ⟨b, 3, none⟩ = some (.map (some s.cm)) := blk_cell hB4 3 rfl
  have hb4f := blk_frozen hB4 2
  have hcb : ¬ x.c = b := hea.2.1
  have hcb' : ¬ b = x.c := fun e => hcb e.symm
  have hkb' : ¬ w2.heap.size = b := by omega
  have hkc' : ¬ w2.heap.size = x.c := by omega
  by_cases h1 : liveOf x.ns = 1
  · have hone : (liveOf x.ns : Int) = 1 := by omega
    have H1 := Lib.hid h1
    rw [hone] at hc40
    clear hone h1
    go_wp2
    generalize hW5 : World.setCell _ _ _ = w5
    have hc45 : Chg [b, x.c] w4 w5 := by rw [← hW5]; exact ((Chg.refl _ _).setCell (by simp) _).setCell (by simp) _
    have hcw5 : Chg [b, x.c, x.nb] w w5 := (hcw4.mono (by intro k hk _; simp at hk; simp [hk])).trans hc45 (by intro k hk; simp at hk; left; rcases hk with q | q <;> simp [q])
    have hB5 : w5.heap[b]? = some (.cells #[.int .i64 s.log, .int .u64 s.n, .int .u64 (s.alive - 1), .map (some s.cm), .map (some s.pm)] 150 (0, 0)) := by
      rw [← hW5]; exact blk_set (blk_far hB4 (by exact hcb') _) 2 _
    have hM5 := hM4.chg hc45 (by simp only [List.mem_cons, List.not_mem_nil, or_false, not_or]; exact ⟨hap.head.1.symm, hea.2.2.1.symm⟩)
    have hk5 : w5.cell? ⟨w2.heap.size, 0, none⟩ = some (.int .u64 (qk s.log p)) := by rw [hc45.cell (p := ⟨w2.heap.size, 0, none⟩) (World.block_lt_of_cell? _ _ hk4) (by simp only [List.mem_cons, List.not_mem_nil, or_false, not_or]; exact ⟨hkb', hkc'⟩)]; exact hk4
    have hb53 : w5.cell? ⟨b, 3, none⟩ = some (.map (some s.cm)) := blk_cell hB5 3 rfl
    obtain ⟨o, hd0, hM6⟩ := (hM5.chg ((Chg.refl [] w5).drew) (by simp)).del encK_law u_mapc (qk s.log p) 0
    have hd : ∀ ty, (deX #[148, 212] ty #[.map (some s.cm), .agg #[.int .u64 (qk s.log p)]]).run Tryz.prog w5.drew = .ok (.tuple #[]) (setMap w5.drew s.cm o) := fun ty => hd0
    clear hd0 hW5 hM5 hc45 hk4 hb42 hb43 hc40 hc4f hb4f hB4 hC4 hN4 hM4 hcw4
    go_region
    go_wp2
    go_ret
    refine ⟨rfl, ?_⟩
    obtain ⟨l1, l2, hsp, _⟩ := find_split HLK.out
    have hin : ∀ y ∈ l1 ++ l2, y ∈ s.cks := by intro y hy; rw [hsp]; rcases List.mem_append.1 hy with q | q <;> simp [q]
    have hnd : (s.cks.map (·.k)).Nodup := by
      obtain ⟨_, _, _, _, hn, _⟩ := hst.2.1
      rw [List.map_map] at hn
      exact hn
    have htw := hap.two
    rw [hsp] at hnd htw
    have hne : ∀ y ∈ l1 ++ l2, y.k ≠ qk s.log p ∧ (x.c ≠ y.c ∧ x.c ≠ y.nb ∧ x.nb ≠ y.c ∧ x.nb ≠ y.nb) := by
      rw [← HXK.out]
      rw [List.map_append, List.map_cons, List.nodup_append, List.nodup_cons] at hnd
      rw [List.pairwise_append, List.pairwise_cons] at htw
      intro y hy
      rcases List.mem_append.1 hy with hy | hy
      · have := htw.2.2 y hy x (by simp)
        exact ⟨fun e => hnd.2.2 y.k (List.mem_map.2 ⟨y, hy, rfl⟩) x.k (by simp) e, this.1.symm, this.2.2.1.symm, this.2.1.symm, this.2.2.2.symm⟩
      · exact ⟨fun e => hnd.2.1.1 (by rw [← e]; exact List.mem_map.2 ⟨y, hy, rfl⟩), htw.2.1.1 y hy⟩
    refine del_close (F := [b, x.c, x.nb, s.cm]) hst HLK.out HXN.out H1.out hsp (fun y hy => (hne y hy).1) (((hcw5.mono (by intro k hk _; simp at hk; simp; rcases hk with q | q | q <;> simp [q])).drew).trans (setMap_chg _ _ _) (by simp)) ?_ ?_ ?_ ?_ ?_
    · intro k hk
      simp at hk
      left
      rcases hk with rfl | rfl | rfl | rfl
      · simp [SS.foot]
      · exact hfx.1
      · exact hfx.2
      · simp [SS.foot]
    · intro y hy
      have h1 := (hne y hy).2
      have h2 := hap.each y (hin y hy)
      simp only [List.mem_cons, List.not_mem_nil, or_false, not_or]
      exact ⟨⟨h2.2.1, h1.1.symm, h1.2.2.1.symm, h2.2.2.1⟩, h2.2.2.2.2.1, h1.2.1.symm, h1.2.2.2.symm, h2.2.2.2.2.2.1⟩
    · simp only [List.mem_cons, List.not_mem_nil, or_false, not_or]
      exact ⟨hap.head.2.1.symm, hea.2.2.2.1.symm, hea.2.2.2.2.2.2.symm, hap.head.2.2.symm⟩
    · have e : ((s.alive - 1 : Nat) : Int) = (s.alive : Int) - 1 := by omega
      rw [e]
      exact (setMap_chg _ _ _).at hB5 (by simpa using hap.head.1)
    · have e : mdel (s.cks.map fun x => (x.k, Value.pointer (some ⟨x.c, 0, none⟩))) (qk s.log p) = (l1 ++ l2).map fun x => (x.k, Value.pointer (some ⟨x.c, 0, none⟩)) := by
        have e2 : s.cks.filter (fun y => decide (y.k ≠ qk s.log p)) = l1 ++ l2 := by
          rw [hsp, List.filter_append, List.filter_cons_of_neg (by simp [HXK.out]), List.filter_eq_self.2 (fun y hy => by simpa using (hne y (by simp [hy])).1), List.filter_eq_self.2 (fun y hy => by simpa using (hne y (by simp [hy])).1)]
        unfold mdel
        rw [List.filter_map]
        exact congrArg (List.map fun x : Ck => (x.k, Value.pointer (some ⟨x.c, 0, none⟩))) e2
      rw [e] at hM6
      exact hM6
  · have hne0 : ((liveOf x.ns : Int) - 1 == 0) = false := by simp; omega
    go_wp2
    go_ret
    refine ⟨rfl, ?_⟩
    obtain ⟨l1, l2, hsp, _⟩ := find_split HLK.out
    have hin : ∀ y ∈ l1 ++ l2, y ∈ s.cks := by intro y hy; rw [hsp]; rcases List.mem_append.1 hy with q | q <;> simp [q]
    have hnd : (s.cks.map (·.k)).Nodup := by
      obtain ⟨_, _, _, _, hn, _⟩ := hst.2.1
      rw [List.map_map] at hn
      exact hn
    have htw := hap.two
    rw [hsp] at hnd htw
    have hne : ∀ y ∈ l1 ++ l2, y.k ≠ qk s.log p ∧ (x.c ≠ y.c ∧ x.c ≠ y.nb ∧ x.nb ≠ y.c ∧ x.nb ≠ y.nb) := by
      rw [← HXK.out]
      rw [List.map_append, List.map_cons, List.nodup_append, List.nodup_cons] at hnd
      rw [List.pairwise_append, List.pairwise_cons] at htw
      intro y hy
      rcases List.mem_append.1 hy with hy | hy
      · have := htw.2.2 y hy x (by simp)
        exact ⟨fun e => hnd.2.2 y.k (List.mem_map.2 ⟨y, hy, rfl⟩) x.k (by simp) e, this.1.symm, this.2.2.1.symm, this.2.1.symm, this.2.2.2.symm⟩
      · exact ⟨fun e => hnd.2.1.1 (by rw [← e]; exact List.mem_map.2 ⟨y, hy, rfl⟩), htw.2.1.1 y hy⟩
    have hW : Chg [b, x.c, x.nb] w ((w4.setCell ⟨x.c, 1, none⟩ (.int .i64 (liveOf x.ns - 1))).setCell ⟨b, 2, none⟩ (.int .u64 (s.alive - 1))) :=
      ((hcw4.mono (by intro k hk _; simp at hk; simp [hk])).setCell (by simp) _).setCell (by simp) _
    have hlv := hlive.out
    have e0 : ((s.alive - 1 : Nat) : Int) = (s.alive : Int) - 1 := by omega
    have hsum : (((l1 ++ (⟨qk s.log p, x.c, x.nb, x.cap, x.ns.set (qa s.log p) none⟩ : Ck) :: l2)).map fun x => liveOf x.ns).sum = s.alive - 1 := by
      unfold SS.alive
      rw [hsp]
      simp
      omega
    refine put_close (X := some x) (F := [b, x.c, x.nb]) hst hp (hst.2.2.2.2.2.top p (by unfold SS.node; rw [HLK.out]; simp [HXN.out])) (by simpa using (hst.2.2.2.2.2.key x hx).1) (by omega) (fun i => set_get x.ns _ i hatl) hsum (by omega) (fun y hy => by simp at hy; subst hy; exact ⟨HXK.out, rfl⟩) (by simp) (by rw [hsp]; simp) (fun y hy => (hne y hy).1) hW ?_ ?_ ?_ ?_ ?_ ?_ hea.1 ?_ ⟨.inl hfx.1, .inl hfx.2⟩
    · intro k hk
      simp at hk
      left
      rcases hk with rfl | rfl | rfl
      · simp [SS.foot]
      · exact hfx.1
      · exact hfx.2
    · intro y hy
      have h1 := (hne y hy).2
      have h2 := hap.each y (hin y hy)
      simp only [List.mem_cons, List.not_mem_nil, or_false, not_or]
      exact ⟨⟨h2.2.1, h1.1.symm, h1.2.2.1.symm⟩, h2.2.2.2.2.1, h1.2.1.symm, h1.2.2.2.symm⟩
    · simp only [List.mem_cons, List.not_mem_nil, or_false, not_or]
      exact ⟨hap.head.2.1.symm, hea.2.2.2.1.symm, hea.2.2.2.2.2.2.symm⟩
    · rw [e0]
      exact blk_set (blk_far hB4 (by exact hcb') _) 2 _
    · have h1 := hst.2.1.chg hW (by simp only [List.mem_cons, List.not_mem_nil, or_false, not_or]; exact ⟨hap.head.1.symm, hea.2.2.1.symm, hea.2.2.2.2.2.1.symm⟩)
      have e : (s.cks.map fun x => (x.k, Value.pointer (some ⟨x.c, 0, none⟩))) = ((l1 ++ (⟨qk s.log p, x.c, x.nb, x.cap, x.ns.set (qa s.log p) none⟩ : Ck) :: l2).map fun x => (x.k, Value.pointer (some ⟨x.c, 0, none⟩))) := by
        rw [hsp]
        simp [HXK.out]
      rw [e] at h1
      exact h1
    · exact kill_ck (blk_far (blk_set hC4 1 _) (by exact hcb) _) (by omega) (blk_far (blk_far hN4 (by exact hea.1.symm) _) (by exact hea.2.2.2.2.1) _) hn5 hm5 HS5.out HT5.out hI hatl
    · refine ⟨⟨hea.2.1, hea.2.2.2.2.1⟩, ⟨hea.2.2.1, hea.2.2.2.2.2.1⟩, ⟨hea.2.2.2.1, hea.2.2.2.2.2.2⟩, ?_⟩
      intro y hy
      have h1 := (hne y hy).2
      exact ⟨⟨h1.1, h1.2.2.1⟩, h1.2.1, h1.2.2.2⟩
end Go.Proofs.YtpklkefnmoaaaaaGreatDoor

/- The store: small readers, pins, New. -/
namespace Go.Proofs.YtpklkefnmoaaaaaGreatDoor
open Go.RowKit
set_option linter.unusedVariables false
set_option linter.unusedSimpArgs false

theorem len_calls (b : Nat) (s : SS) (w : World) (hst : StIs w b s) : Calls Tryz.prog 102 #[.pointer (some ⟨b, 0, none⟩)] w (Res w [] (.int .u64 s.n)) := by
  have hc := hst.cell1
  go_enter Tryz.func102, Tryz.ntmps102
  go_wp2
  go_ret
  exact ⟨rfl, Chg.refl _ _⟩
theorem chunks_calls (b : Nat) (s : SS) (w : World) (hst : StIs w b s) : Calls Tryz.prog 141 #[.pointer (some ⟨b, 0, none⟩)] w (Res w [] (.int .i64 s.cks.length)) := by
  have hc := hst.cell3
  have hl : ∀ ty, (Builtin.len_ #[148] ty #[.map (some s.cm)]).run Tryz.prog w = .ok (.int .i64 s.cks.length) w := by
    intro ty
    have := hst.2.1.len u_mapc ty
    rw [this, List.length_map]
  go_enter Tryz.func141, Tryz.ntmps141
  go_wp2
  go_ret
  exact ⟨rfl, Chg.refl _ _⟩
theorem live_calls (b p : Nat) (s : SS) (w : World) (hst : StIs w b s) (hp : p < 18446744073709551616) :
    Calls Tryz.prog 139 #[.pointer (some ⟨b, 0, none⟩), .int .u64 p] w (Res w [] (.bool (s.getE p == 0))) := by
  have hb := hst.blt
  have hg := IsHash.getH hst p
  have hs1 := hg.1
  have hs2 := hg.one
  have hget := get_calls b p s w hst hp
  generalize s.getH p = H at *
  generalize s.getE p = E at *
  clear hg
  go_enter Tryz.func139, Tryz.ntmps139
  go_wp2_with (go_at_call 104; refine hget.mono ?_; rintro e w1 ⟨rfl, hc⟩)
  go_ret
  exact ⟨rfl, hc.alloc _⟩
theorem lookp {w : World} {b : Nat} {s : SS} (h : StIs w b s) (p : Nat) : (Instr.lookup 105 (.map (some s.pm)) (.int .u64 p) false).run Tryz.prog w = .ok (.int .i64 (s.pin p)) w := by
  have := h.2.2.1.look encU_law u_mapp z_int p false
  rw [mget_map] at this
  unfold encU at this
  rw [this]
  unfold SS.pin
  cases s.pins.find? fun x => decide (x.1 = p) <;> rfl
end Go.Proofs.YtpklkefnmoaaaaaGreatDoor

/- The store: pins. -/
namespace Go.Proofs.YtpklkefnmoaaaaaGreatDoor
open Go.RowKit
set_option linter.unusedVariables false
set_option linter.unusedSimpArgs false

def pput (l : List (Nat × Nat)) (p c : Nat) : List (Nat × Nat) := if (l.find? fun x => decide (x.1 = p)).isSome then l.map (fun x => if x.1 = p then (p, c) else x) else l ++ [(p, c)]
def pdel (l : List (Nat × Nat)) (p : Nat) : List (Nat × Nat) := l.filter fun x => decide (x.1 ≠ p)
def pv (l : List (Nat × Nat)) : List (Nat × Value) := l.map fun x => (x.1, Value.int .i64 x.2)
theorem mget_pv (l : List (Nat × Nat)) (p : Nat) : mget (pv l) p = (l.find? fun x => decide (x.1 = p)).map fun x => Value.int .i64 x.2 := mget_map l (·.1) _ p
theorem pv_put (l : List (Nat × Nat)) (p c : Nat) : mput (pv l) p (.int .i64 c) = pv (pput l p c) := by
  unfold mput pput
  rw [mget_pv, Option.isSome_map]
  split
  · unfold pv
    rw [List.map_map, List.map_map]
    exact List.map_congr_left (fun x _ => by simp only [Function.comp]; split <;> rfl)
  · simp [pv]
theorem pv_del (l : List (Nat × Nat)) (p : Nat) : mdel (pv l) p = pv (pdel l p) := by
  unfold mdel pdel pv
  rw [List.filter_map]
  rfl
theorem pfind_put (l : List (Nat × Nat)) (p c q : Nat) : ((pput l p c).find? fun x => decide (x.1 = q)).map (fun x => Value.int .i64 x.2) = if q = p then some (.int .i64 c) else (l.find? fun x => decide (x.1 = q)).map fun x => Value.int .i64 x.2 := by
  rw [← mget_pv, ← pv_put, mget_put, mget_pv]
theorem pfind_del (l : List (Nat × Nat)) (p q : Nat) : ((pdel l p).find? fun x => decide (x.1 = q)).map (fun x => Value.int .i64 x.2) = if q = p then none else (l.find? fun x => decide (x.1 = q)).map fun x => Value.int .i64 x.2 := by
  rw [← mget_pv, ← pv_del, mget_del, mget_pv]
theorem optmap {a b : Option (Nat × Nat)} (h : a.map (fun x => Value.int .i64 (x.2 : Int)) = b.map fun x => Value.int .i64 (x.2 : Int)) : (a.map (·.2)).getD 0 = (b.map (·.2)).getD 0 := by
  cases a <;> cases b <;> simp at h ⊢
  omega
theorem pin_put (s : SS) (p c q : Nat) : ({ s with pins := pput s.pins p c } : SS).pin q = if q = p then c else s.pin q := by
  have h := pfind_put s.pins p c q
  unfold SS.pin
  by_cases e : q = p
  · rw [if_pos e] at h ⊢
    have := optmap (b := some (p, c)) h
    simpa using this
  · rw [if_neg e] at h ⊢
    exact optmap h
theorem pin_del (s : SS) (p q : Nat) : ({ s with pins := pdel s.pins p } : SS).pin q = if q = p then 0 else s.pin q := by
  have h := pfind_del s.pins p q
  unfold SS.pin
  by_cases e : q = p
  · rw [if_pos e] at h ⊢
    have := optmap (b := none) h
    simpa using this
  · rw [if_neg e] at h ⊢
    exact optmap h
theorem pin_pos {s : SS} (hok : s.ok) (p : Nat) : 0 < s.pin p → ∃ c, (p, c) ∈ s.pins := by
  unfold SS.pin
  cases h : s.pins.find? fun x => decide (x.1 = p) with
  | none => simp
  | some x =>
    intro _
    have h1 := List.find?_some h
    simp at h1
    exact ⟨x.2, by rw [← h1]; exact List.mem_of_find?_eq_some h⟩

theorem StIs.withPins {w w' : World} {b : Nat} {s : SS} (hst : StIs w b s) (l : List (Nat × Nat)) (hc : Chg [s.pm] w w') (hm : MapIs encU w' s.pm (pv l)) (hl : ∀ x ∈ l, 0 < x.2 ∧ x.2 < 4294967296) : StIs w' b { s with pins := l } := by
  obtain ⟨h1, h2, h3, h4, h5, h6⟩ := hst
  refine ⟨hc.at h1 (by simpa using h5.head.2.1), h2.chg hc (by simpa using h5.head.2.2), hm, ?_, ⟨h5.head, h5.each, h5.two⟩, ⟨h6.log, h6.n, h6.key, hl, h6.top, h6.al⟩⟩
  intro x hx
  have := h5.each x hx
  exact (h4 x hx).chg hc (by simpa using this.2.2.2.1) (by simpa using this.2.2.2.2.2.2)

/-- What a call leaves that changes the store to s'. -/
def StP (w : World) (b : Nat) (s' : SS) (F : List Nat) (v : Value) (e : Ending) (w' : World) : Prop := e = .returned v ∧ StIs w' b s' ∧ Chg F w w'

theorem mem_pput {l : List (Nat × Nat)} {p c : Nat} {x : Nat × Nat} (h : x ∈ pput l p c) : x = (p, c) ∨ x ∈ l := by
  unfold pput at h
  split at h
  · obtain ⟨y, hy, rfl⟩ := List.mem_map.1 h
    split
    · exact .inl rfl
    · exact .inr hy
  · rcases List.mem_append.1 h with h | h
    · exact .inr h
    · left; simpa using h

end Go.Proofs.YtpklkefnmoaaaaaGreatDoor

/- The store: Unpin. -/
namespace Go.Proofs.YtpklkefnmoaaaaaGreatDoor
open Go.RowKit
set_option linter.unusedVariables false
set_option linter.unusedSimpArgs false

theorem pdel_put (l : List (Nat × Nat)) (p c : Nat) : pdel (pput l p c) p = pdel l p := by
  unfold pput
  split
  · rename_i hs
    clear hs
    unfold pdel
    induction l with
    | nil => rfl
    | cons x l ih =>
      by_cases h : x.1 = p
      · simp [h]
        simpa using ih
      · simp [h]
        simpa using ih
  · simp [pdel]
def unp (l : List (Nat × Nat)) (p c : Nat) : List (Nat × Nat) := if c ≤ 1 then pdel l p else pput l p (c - 1)
theorem pin_unp (s : SS) (p q : Nat) : ({ s with pins := unp s.pins p (s.pin p) } : SS).pin q = if q = p then s.pin p - 1 else s.pin q := by
  unfold unp
  split
  · rw [pin_del]
    by_cases e : q = p
    · rw [if_pos e, if_pos e]; omega
    · rw [if_neg e, if_neg e]
  · rw [pin_put]

theorem pin_lt {s : SS} (hok : s.ok) (p : Nat) : s.pin p < 4294967296 := by
  unfold SS.pin
  cases h : s.pins.find? fun x => decide (x.1 = p) with
  | none => simp
  | some x =>
    have := (hok.pin x (List.mem_of_find?_eq_some h)).2
    simpa using this
end Go.Proofs.YtpklkefnmoaaaaaGreatDoor

/- The store: Push, Drop, Back. -/
namespace Go.Proofs.YtpklkefnmoaaaaaGreatDoor
open Go.RowKit
set_option linter.unusedVariables false
set_option linter.unusedSimpArgs false

set_option maxRecDepth 100000 in
theorem drop_far (b p : Nat) (s : SS) (w : World) (hst : StIs w b s) (hp : p < 18446744073709551616) (hn : s.n ≤ p) :
    Calls Tryz.prog 23 #[.pointer (some ⟨b, 0, none⟩), .int .u64 p] w (Res w [] (.int .i64 31)) := by
  have hc1 := hst.cell1
  go_enter Tryz.func23, Tryz.ntmps23
  go_wp2
  go_ret
  exact ⟨rfl, Chg.refl _ _⟩
set_option maxRecDepth 100000 in
theorem drop_pin (b p : Nat) (s : SS) (w : World) (hst : StIs w b s) (hp : p < 18446744073709551616) (hn : p < s.n) (h0 : 0 < s.pin p) :
    Calls Tryz.prog 23 #[.pointer (some ⟨b, 0, none⟩), .int .u64 p] w (Res w [] (.int .i64 51)) := by
  have hc1 := hst.cell1
  have hc4 := hst.cell4
  have hlk := lookp hst p
  generalize s.pin p = c at *
  go_enter Tryz.func23, Tryz.ntmps23
  go_wp2
  go_ret
  exact ⟨rfl, Chg.refl _ _⟩
set_option maxRecDepth 100000 in
theorem drop_dead (b p : Nat) (s : SS) (w : World) (hst : StIs w b s) (hp : p < 18446744073709551616) (hn : p < s.n) (h0 : s.pin p = 0) (hd : s.node p = none) :
    Calls Tryz.prog 23 #[.pointer (some ⟨b, 0, none⟩), .int .u64 p] w (Res w [] (.int .i64 0)) := by
  have hc1 := hst.cell1
  have hc4 := hst.cell4
  have hlk := lookp hst p
  rw [h0] at hlk
  have hk := kill_dead b p s w hst hp hd
  clear h0 hd
  go_enter Tryz.func23, Tryz.ntmps23
  go_wp2_with (go_at_call 107; refine hk.mono ?_; rintro e w1 ⟨rfl, hc⟩)
  go_ret
  exact ⟨rfl, hc⟩
set_option maxRecDepth 100000 in
theorem drop_live (b p : Nat) (s : SS) (w : World) (hst : StIs w b s) (hp : p < 18446744073709551616) (h0 : s.pin p = 0) {h : Array Value} (hd : s.node p = some h) :
    Calls Tryz.prog 23 #[.pointer (some ⟨b, 0, none⟩), .int .u64 p] w (PutP w b s p none (s.alive - 1) (.int .i64 0)) := by
  have hn := hst.2.2.2.2.2.top p (by rw [hd]; rfl)
  have hc1 := hst.cell1
  have hc4 := hst.cell4
  have hlk := lookp hst p
  rw [h0] at hlk
  have hk := kill_live b p s w hst hp hd
  clear h0 hd
  go_enter Tryz.func23, Tryz.ntmps23
  go_wp2_with (go_at_call 107; refine hk.mono ?_; rintro e w1 ⟨rfl, s', h1, h2, h3⟩)
  go_ret
  exact ⟨rfl, s', h1, h2, h3⟩

set_option maxRecDepth 100000 in
theorem back_far (b p : Nat) (s : SS) (h : Array Value) (w : World) (hst : StIs w b s) (hp : p < 18446744073709551616) (hn : s.n ≤ p) :
    Calls Tryz.prog 98 #[.pointer (some ⟨b, 0, none⟩), .int .u64 p, .agg h] w (Res w [] (.int .i64 31)) := by
  have hb := hst.blt
  have hc1 := hst.cell1
  go_enter Tryz.func98, Tryz.ntmps98
  go_wp2
  go_ret
  exact ⟨rfl, (Chg.refl _ _).alloc _⟩
set_option maxRecDepth 100000 in
theorem back_live (b p : Nat) (s : SS) (h : Array Value) (w : World) (hst : StIs w b s) (hp : p < 18446744073709551616) {q : Array Value} (hd : s.node p = some q) :
    Calls Tryz.prog 98 #[.pointer (some ⟨b, 0, none⟩), .int .u64 p, .agg h] w (Res w [] (.int .i64 53)) := by
  have hn := hst.2.2.2.2.2.top p (by rw [hd]; rfl)
  have hb := hst.blt
  have hc1 := hst.cell1
  obtain ⟨g, o, hf0, _⟩ := node_ptr hst hd
  have hf := Lib.hid hf0
  clear hf0 hd
  go_enter Tryz.func98, Tryz.ntmps98
  go_wp2_with (go_at_call 171; refine (find_calls b p s _ (hst.chg0 ((Chg.refl _ _).alloc _)) hp).mono ?_; rintro e w1 ⟨rfl, hc⟩; rw [hf.out])
  go_ret
  exact ⟨rfl, ((Chg.refl _ _).alloc _).nil_trans hc⟩
set_option maxRecDepth 100000 in
theorem back_ok (b p : Nat) (s : SS) (h : Array Value) (w : World) (hst : StIs w b s) (hp : p < 18446744073709551616) (hh : IsHash h) (hn : p < s.n) (hd : s.node p = none) (ha : s.alive < 1099511627776) :
    Calls Tryz.prog 98 #[.pointer (some ⟨b, 0, none⟩), .int .u64 p, .agg h] w (PutP w b s p (some h) (s.alive + 1) (.int .i64 0)) := by
  have hb := hst.blt
  have hc1 := hst.cell1
  have hsz := hh.1
  have hf := Lib.hid (node_nil hd)
  have hlay : ∀ w1, Chg [] w w1 → Calls Tryz.prog 172 #[.pointer (some ⟨b, 0, none⟩), .int .u64 p, .agg h] w1 (LayPost w1 b s p h) :=
    fun w1 h1 => lay_calls b p s h w1 (hst.chg0 h1) hp hh hn hd ha
  clear hd
  go_enter Tryz.func98, Tryz.ntmps98
  go_wp2_with (first
    | (go_at_call 171; refine (find_calls b p s _ (hst.chg0 ((Chg.refl _ _).alloc _)) hp).mono ?_; rintro e w1 ⟨rfl, hc⟩; rw [hf.out]; have hcw := ((Chg.refl [] w).alloc (.cells h 36)).nil_trans hc; have hbx := rng?_chg hc (rng?_alloc_at w w.heap.size 32 h 36 rfl hsz) (by omega) (by simp))
    | (go_at_call 172; refine (hlay _ hcw).mono ?_; rintro e w2 ⟨rfl, s', h1, h2, h3⟩))
  go_ret
  refine ⟨rfl, s', h1, h2, ?_, ?_⟩
  · exact (hcw.of_nil).trans h3.1 (by intro k hk; exact .inl hk)
  · intro k hk
    rcases h3.2 k hk with q | q
    · left; exact q
    · right; have := hcw.size; omega
end Go.Proofs.YtpklkefnmoaaaaaGreatDoor

/- Both trees: what is done to their stores; the document's small readers. -/
namespace Go.Proofs.YtpklkefnmoaaaaaGreatDoor
open Go.RowKit
set_option linter.unusedVariables false
set_option linter.unusedSimpArgs false

section
variable {F0 : List Nat} {w0 w w' : World} {b rb m : Nat} {t t' : TS} {r r' : RT}
theorem TrIs.mvS (h : TrIs w b t) {s' : SS} (h1 : StIs w' t.sb s') (h3 : Mv (t.s.foot t.sb) (s'.foot t.sb) w w') : TrIs w' b { t with s := s' } := by
  have hlt := h.lt
  have hb : b < w.heap.size := hlt b (by simp [TS.foot])
  refine ⟨h3.1.at h.mem h.apart, h1, ?_, ?_, h.wd⟩
  · intro hm
    rcases h3.2 b hm with q | q
    · exact h.apart q
    · omega
  · intro k hk
    simp only [TS.foot, List.mem_cons] at hk
    rcases hk with rfl | hk
    · exact h.low _ (by simp [TS.foot])
    · rcases h3.2 k hk with q | q
      · exact h.low k (by simp [TS.foot, q])
      · have := h.low b (by simp [TS.foot]); omega
theorem RtIs.mvD (h : RtIs w b r) {d' : DS} (h1 : DIs w' r.c d') (h3 : Mv (r.d.foot r.c) (d'.foot r.c) w w') : RtIs w' b { r with d := d' } := by
  have hb : b < w.heap.size := h.lt b (by simp [RT.foot])
  refine ⟨h3.1.at h.mem h.apart, h1, ?_⟩
  intro hm
  rcases h3.2 b hm with q | q
  · exact h.apart q
  · omega
theorem Two.stepS (h : Two F0 w0 w b rb t r) {s' : SS} (h1 : StIs w' t.sb s') (h3 : Mv (t.s.foot t.sb) (s'.foot t.sb) w w') : Two F0 w0 w' b rb { t with s := s' } r :=
  h.movT (h.tr.mvS h1 h3) (h3.1.mono (fun x hx _ => by simp [TS.foot, hx])) (fun k hk => by
    simp only [TS.foot, List.mem_cons] at hk ⊢
    rcases hk with rfl | hk
    · exact .inl (.inl rfl)
    · rcases h3.2 k hk with q | q
      · exact .inl (.inr q)
      · exact .inr q)
theorem Two.stepD (h : Two F0 w0 w b rb t r) {d' : DS} (h1 : DIs w' r.c d') (h3 : Mv (r.d.foot r.c) (d'.foot r.c) w w') : Two F0 w0 w' b rb t { r with d := d' } :=
  h.movR (h.rf.mvD h1 h3) (h3.1.mono (fun x hx _ => by simp only [RT.foot, List.mem_cons]; exact .inr hx)) (fun k hk => by
    simp only [RT.foot, List.mem_cons] at hk ⊢
    rcases hk with rfl | hk
    · exact .inl (.inl rfl)
    · rcases h3.2 k hk with q | q
      · exact .inl (.inr q)
      · exact .inr q)
def Side1 (F0 : List Nat) (w0 : World) (b rb : Nat) (r : RT) (m : Nat) (ns : List DN) (t : TS) (v : Value) (e : Ending) (w' : World) : Prop :=
  e = .returned v ∧ ∃ s', Two F0 w0 w' b rb { t with s := s' } r ∧ Rel { t with s := s' } { r with d := { r.d with ns := ns } } m
theorem Rel.put (h : Rel t r m) {s' : SS} {p al : Nat} {o : Option (Array Value)} (hp : p < r.d.ns.length) (hr : PutRel t.s s' p o al) (hal : al ≤ t.s.alive + 1) : Rel { t with s := s' } { r with d := { r.d with ns := r.d.ns.set p (o.map (·, 0)) } } (m + 1) := by
  refine ⟨h.wd, h.n, ?_, fun q => ?_, fun q => ?_, by rw [hr.n]; exact h.full, by have := h.size; show t.size ≤ m + 1; omega, ?_⟩
  · unfold vd SS.view
    rw [hr.n, List.length_set, h.len]
    congr 1
    funext q
    show ((((r.d.ns.set p (o.map (·, 0)))[q]?).join).map (·.1)) = s'.node q
    rw [hr.node, jn_set]
    by_cases e : q = p
    · rw [if_pos e, if_pos ⟨e, hp⟩]; cases o <;> rfl
    · rw [if_neg e, if_neg (fun h => e h.1)]; exact (h.node q).symm
  · have : s'.pin q = t.s.pin q := by unfold SS.pin; rw [hr.pins]
    show s'.pin q = 0
    rw [this]; exact h.pinT q
  · show dnK (((r.d.ns.set p (o.map (·, 0)))[q]?).join) = 0
    rw [jn_set]
    by_cases e : q = p
    · rw [if_pos ⟨e, hp⟩]; cases o <;> rfl
    · rw [if_neg (fun h => e h.1)]; exact h.pinR q
  · show s'.alive ≤ _
    rw [hr.alive]
    have := h.al
    omega
theorem Rel.setNone (h : Rel t r m) {p : Nat} (hn : ((r.d.ns[p]?).join) = none) : r.d.ns.set p none = r.d.ns := by
  apply List.ext_getElem?
  intro q
  rw [List.getElem?_set]
  by_cases e : p = q
  · subst e
    by_cases hl : p < r.d.ns.length
    · rw [if_pos rfl, if_pos hl]
      rw [List.getElem?_eq_getElem hl] at hn ⊢
      have : r.d.ns[p] = none := hn
      rw [this]
    · rw [if_pos rfl, if_neg hl, List.getElem?_eq_none (by omega)]
  · rw [if_neg e]
theorem Two.keep1 (h : Two F0 w0 w b rb t r) (hr : Rel t r m) (hc : Chg [] w w') {v : Value} {ns : List DN} (hn : ns = r.d.ns) : Side1 F0 w0 b rb r (m + 1) ns t v (.returned v) w' :=
  ⟨rfl, t.s, h.chg0 hc, by subst hn; exact hr.up (by omega)⟩
theorem two_drop (h : Two F0 w0 w b rb t r) (hr : Rel t r m) {p : Nat} (hp : p < 18446744073709551616) :
    Calls Tryz.prog 23 #[.pointer (some ⟨t.sb, 0, none⟩), .int .u64 p] w (Side1 F0 w0 b rb r (m + 1) (dDrop r.d.ns p) t (.int .i64 (dDropE r.d.ns p))) := by
  have hpr : dnK ((r.d.ns[p]?).join) = 0 := hr.pinR p
  have e2 : dDrop r.d.ns p = r.d.ns.set p none := by unfold dDrop; rw [if_neg (by omega)]
  have hlen := hr.len
  by_cases hl : p < t.s.n
  · have e1 : dDropE r.d.ns p = 0 := by unfold dDropE; rw [if_pos (by omega), if_neg (by omega)]
    rw [e1, e2]
    cases hd : t.s.node p with
    | none =>
      have hx : (r.d.ns[p]?).join = none := by
        have := hr.node p
        rw [hd] at this
        cases hy : (r.d.ns[p]?).join with
        | none => rfl
        | some y => rw [hy] at this; cases this
      exact (drop_dead t.sb p t.s w h.tr.st hp hl (hr.pinT p) hd).mono fun e w' ⟨he, hc⟩ => by rw [he]; exact h.keep1 hr hc (hr.setNone hx)
    | some g =>
      refine (drop_live t.sb p t.s w h.tr.st hp (hr.pinT p) hd).mono ?_
      rintro e w' ⟨rfl, s', h1, h2, h3⟩
      exact ⟨rfl, s', h.stepS h1 h3, hr.put (by omega) h2 (by omega)⟩
  · have e1 : dDropE r.d.ns p = 31 := by unfold dDropE; rw [if_neg (by omega)]
    rw [e1, e2]
    exact (drop_far t.sb p t.s w h.tr.st hp (by omega)).mono fun e w' ⟨he, hc⟩ => by rw [he]; exact h.keep1 hr hc (List.set_eq_of_length_le (by omega))
theorem two_back (h : Two F0 w0 w b rb t r) (hr : Rel t r m) (hm : m ≤ 1000000) {p : Nat} (hp : p < 18446744073709551616) {H : Array Value} (hH : IsHash H) :
    Calls Tryz.prog 98 #[.pointer (some ⟨t.sb, 0, none⟩), .int .u64 p, .agg H] w (Side1 F0 w0 b rb r (m + 1) (dBack r.d.ns p H) t (.int .i64 (dBackE r.d.ns p))) := by
  have hlen := hr.len
  have hlv := hr.live p
  have hal := hr.al
  by_cases hl : p < t.s.n
  · cases hd : t.s.node p with
    | some g =>
      rw [hd] at hlv
      have e1 : dBackE r.d.ns p = 53 := by unfold dBackE; rw [if_pos (by omega), ← hlv]; rfl
      have e2 : dBack r.d.ns p H = r.d.ns := by unfold dBack; rw [← hlv]; rfl
      rw [e1]
      exact (back_live t.sb p t.s H w h.tr.st hp hd).mono fun e w' ⟨he, hc⟩ => by rw [he]; exact h.keep1 hr hc e2
    | none =>
      rw [hd] at hlv
      have e1 : dBackE r.d.ns p = 0 := by unfold dBackE; rw [if_pos (by omega), ← hlv]; rfl
      have e2 : dBack r.d.ns p H = r.d.ns.set p (some (H, 0)) := by unfold dBack; rw [← hlv]; rfl
      rw [e1, e2]
      refine (back_ok t.sb p t.s H w h.tr.st hp hH hl hd (by omega)).mono ?_
      rintro e w' ⟨rfl, s', h1, h2, h3⟩
      exact ⟨rfl, s', h.stepS h1 h3, hr.put (o := some H) (by omega) h2 (by omega)⟩
  · have e1 : dBackE r.d.ns p = 31 := by unfold dBackE; rw [if_neg (by omega)]
    have e2 : dBack r.d.ns p H = r.d.ns := by unfold dBack; rw [jn_ge (by omega), if_neg (by simp), List.set_eq_of_length_le (by omega)]
    rw [e1]
    exact (back_far t.sb p t.s H w h.tr.st hp (by omega)).mono fun e w' ⟨he, hc⟩ => by rw [he]; exact h.keep1 hr hc e2
/-- Behind both. -/
def Both (F0 : List Nat) (w0 : World) (b rb m : Nat) (sb c : Nat) (w' : World) : Prop := ∃ t' r', Two F0 w0 w' b rb t' r' ∧ Rel t' r' m ∧ t'.sb = sb ∧ r'.c = c
theorem Rel.congr (h : Rel t r m) (h1 : r'.wd = r.wd) (h2 : r'.n = r.n) (h3 : r'.d.ns = r.d.ns) : Rel t r' m :=
  ⟨h1.trans h.wd, h2.trans h.n, by rw [h3]; exact h.view, h.pinT, fun p => by rw [h3]; exact h.pinR p, h.full, h.size, h.al⟩
theorem Side1.join {ns : List DN} {v v2 : Value} {e e2 : Ending} {w1 : World} (h : Side1 F0 w0 b rb r m ns t v e w1) (hq : DP w1 r.c r.d ns v2 e2 w') : Both F0 w0 b rb m t.sb r.c w' := by
  obtain ⟨_, s', h1, h2⟩ := h
  obtain ⟨_, d', q1, q2, q3, q4⟩ := hq
  exact ⟨_, _, h1.stepD q1 q4, h2.congr rfl rfl (by rw [← q2]), rfl, rfl⟩
end
end Go.Proofs.YtpklkefnmoaaaaaGreatDoor

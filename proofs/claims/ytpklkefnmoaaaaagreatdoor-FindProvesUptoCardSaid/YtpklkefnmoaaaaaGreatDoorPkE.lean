/- Texts put into one by pack.py: StNew StC StE StD StPush. -/
import Derived.Deep.LoopGhost
import Derived.Maps.AppendAt
import Derived.Test.YtpklkefnmoaaaaaGreatDoorPkB
/- The store: New. -/
namespace Go.Proofs.YtpklkefnmoaaaaaGreatDoor
open Go.RowKit
set_option linter.unusedVariables false
set_option linter.unusedSimpArgs false

theorem IsHash.getH {w : World} {b : Nat} {s : SS} (hst : StIs w b s) (p : Nat) : IsHash (s.getH p) := by
  unfold SS.getH
  split
  · cases hn : s.node p with
    | none => exact zeroHash_is
    | some h => obtain ⟨_, _, _, _, hh⟩ := node_ptr hst hn; exact hh
  · exact zeroHash_is

theorem new_bad (l : Int) (w : World) (h : l < 0 ∨ 16 < l) : Calls Tryz.prog 76 #[.int .i64 l] w (Res w [] (.tuple #[.pointer none, .int .i64 1])) := by
  by_cases h0 : l < 0
  · go_enter Tryz.func76, Tryz.ntmps76
    go_wp2
    go_ret2
    exact ⟨rfl, Chg.refl _ _⟩
  · have h1 : 16 < l := by omega
    go_enter Tryz.func76, Tryz.ntmps76
    go_wp2
    go_ret2
    exact ⟨rfl, Chg.refl _ _⟩
def NewPost (w : World) (l : Nat) (e : Ending) (w' : World) : Prop :=
  ∃ b s, e = .returned (.tuple #[.pointer (some ⟨b, 0, none⟩), .int .i64 0]) ∧ StIs w' b s ∧ Chg [] w w' ∧ (∀ k ∈ s.foot b, w.heap.size ≤ k) ∧ s.log = l ∧ s.n = 0 ∧ s.cks = [] ∧ s.pins = []
theorem new_ok (l : Nat) (w : World) (h : l ≤ 16) : Calls Tryz.prog 76 #[.int .i64 l] w (NewPost w l) := by
  have hmm := @run_makeMap Tryz.prog
  go_enter Tryz.func76, Tryz.ntmps76
  go_wp2
  go_ret2
  refine ⟨_, ⟨l, 0, w.heap.size, w.heap.size + 1, [], []⟩, rfl, ?_, (((Chg.refl _ _).alloc _).alloc _).alloc _, ?_, rfl, rfl, rfl, rfl⟩
  · have h1 := blk_new w (.map #[] 0)
    have h2 := blk_new (w.alloc (.map #[] 0)) (.map #[] 0)
    refine ⟨?_, ?_, ?_, by simp, ⟨by simp; omega, by simp, by simp⟩, ⟨h, by simp, by simp, by simp, by simp [SS.node, SS.look], by simp [SS.alive]⟩⟩
    · have h3 := blk_new ((w.alloc (.map #[] 0)).alloc (.map #[] 0)) (.cells #[.int .i64 l, .int .u64 0, .int .u64 0, .map (some w.heap.size), .map (some (w.heap.size + 1))] 150)
      simpa [SS.alive] using h3
    · exact ((MapIs.new encK w).chg ((Chg.refl [] _).alloc _) (by simp)).chg ((Chg.refl [] _).alloc _) (by simp)
    · have h3 := (MapIs.new encU (w.alloc (.map #[] 0))).chg ((Chg.refl [] _).alloc (.cells #[.int .i64 l, .int .u64 0, .int .u64 0, .map (some w.heap.size), .map (some (w.heap.size + 1))] 150)) (by simp)
      simpa using h3
  · intro k hk
    simp [SS.foot] at hk
    omega
end Go.Proofs.YtpklkefnmoaaaaaGreatDoor

/- The store: a node that is laid. -/
namespace Go.Proofs.YtpklkefnmoaaaaaGreatDoor
open Go.RowKit
set_option linter.unusedVariables false
set_option linter.unusedSimpArgs false

def layNs (ns : List (Option (Array Value))) (at_ : Nat) (h : Array Value) : List (Option (Array Value)) := (ns ++ List.replicate (at_ + 1 - ns.length) none).set at_ (some h)

theorem layNs_length (ns : List (Option (Array Value))) (at_ : Nat) (h : Array Value) : (layNs ns at_ h).length = max ns.length (at_ + 1) := by
  simp [layNs]; omega
theorem layNs_get (ns : List (Option (Array Value))) (at_ : Nat) (h : Array Value) (i : Nat) : ((layNs ns at_ h)[i]?).join = if i = at_ then some h else (ns[i]?).join := by
  unfold layNs
  by_cases hi : i = at_
  · subst hi
    rw [if_pos rfl, List.getElem?_set_self (by simp; omega)]
    rfl
  · rw [if_neg hi, List.getElem?_set_ne (fun e => hi e.symm)]
    by_cases hl : i < ns.length
    · rw [List.getElem?_append_left hl]
    · have e0 : ns[i]? = none := List.getElem?_eq_none (by omega)
      rw [List.getElem?_append_right (by omega), e0]
      by_cases hr : i - ns.length < at_ + 1 - ns.length
      · simp [hr]
      · rw [List.getElem?_eq_none (by simp only [List.length_replicate]; omega)]
theorem layNs_live (ns : List (Option (Array Value))) (at_ : Nat) (h : Array Value) (hn : (ns[at_]?).join = none) : liveOf (layNs ns at_ h) = liveOf ns + 1 := by
  have e : ∀ m, liveOf (ns ++ List.replicate m none) = liveOf ns := by intro m; simp [liveOf, List.countP_append, List.countP_replicate]
  rw [← e (at_ + 1 - ns.length)]
  unfold layNs
  generalize hl : ns ++ List.replicate (at_ + 1 - ns.length) none = l
  have h1 : at_ < l.length := by rw [← hl]; simp; omega
  have h2 : l[at_] = none := by
    have : (l[at_]?).join = none := by
      rw [← hl]
      by_cases hq : at_ < ns.length
      · rw [List.getElem?_append_left hq]; exact hn
      · rw [List.getElem?_append_right (by omega)]
        by_cases hr : at_ - ns.length < at_ + 1 - ns.length
        · simp [hr]
        · rw [List.getElem?_eq_none (by simp; omega)]; rfl
    rw [List.getElem?_eq_getElem h1] at this
    simpa using this
  clear hl e hn
  unfold liveOf
  rw [List.countP_set h1]
  simp [h2]
theorem layNs_hash {ns : List (Option (Array Value))} {at_ : Nat} {h : Array Value} (hh : IsHash h) (hns : ∀ q, some q ∈ ns → IsHash q) : ∀ q, some q ∈ layNs ns at_ h → IsHash q := by
  intro q hq
  unfold layNs at hq
  rcases List.mem_or_eq_of_mem_set hq with hq | hq
  · rw [List.mem_append] at hq
    rcases hq with hq | hq
    · exact hns q hq
    · simp [List.mem_replicate] at hq
  · simp at hq; subst hq; exact hh

theorem cellsOf_append (a b : List (Option (Array Value))) : cellsOf (a ++ b) = cellsOf a ++ cellsOf b := by simp [cellsOf]
theorem nodeCells_none : nodeCells none = (nodeOf zeroHash false).toList := by simp [nodeCells, nodeOf]
theorem nodeCells_some (h : Array Value) : nodeCells (some h) = (nodeOf h true).toList := by simp [nodeCells, nodeOf]
theorem nodeCells_length {o : Option (Array Value)} (hh : ∀ h, o = some h → IsHash h) : (nodeCells o).length = 33 := by
  cases o with
  | none => simp [nodeCells, zeroHash]
  | some h => simp [nodeCells, (hh h rfl).1]
theorem cellsOf_length {ns : List (Option (Array Value))} (hh : ∀ h, some h ∈ ns → IsHash h) : (cellsOf ns).length = ns.length * 33 := by
  induction ns with
  | nil => rfl
  | cons o ns ih =>
    have e : cellsOf (o :: ns) = nodeCells o ++ cellsOf ns := by simp [cellsOf]
    rw [e, List.length_append, nodeCells_length (fun h q => hh h (by simp [q])), ih (fun h q => hh h (by simp [q])), List.length_cons]
    omega
theorem cellsOf_cons (o : Option (Array Value)) (ns : List (Option (Array Value))) : cellsOf (o :: ns) = nodeCells o ++ cellsOf ns := by simp [cellsOf]
theorem cellsOf_set {ns : List (Option (Array Value))} (hh : ∀ h, some h ∈ ns → IsHash h) {i : Nat} (hi : i < ns.length) {o : Option (Array Value)} :
    cellsOf (ns.set i o) = (cellsOf ns).take (i * 33) ++ nodeCells o ++ (cellsOf ns).drop (i * 33 + 33) := by
  have hd : ns = ns.take i ++ (ns[i] :: ns.drop (i + 1)) := by rw [← List.drop_eq_getElem_cons hi, List.take_append_drop]
  have e1 : cellsOf ns = cellsOf (ns.take i) ++ (nodeCells ns[i] ++ cellsOf (ns.drop (i + 1))) := (congrArg cellsOf hd).trans (by rw [cellsOf_append, cellsOf_cons])
  have l1 : (cellsOf (ns.take i)).length = i * 33 := by
    rw [cellsOf_length (fun h q => hh h (List.mem_of_mem_take q))]; simp; omega
  have l2 : (nodeCells ns[i]).length = 33 := nodeCells_length (fun h q => hh h (by rw [← q]; exact List.getElem_mem hi))
  rw [List.set_eq_take_append_cons_drop, if_pos hi, cellsOf_append, cellsOf_cons, e1]
  generalize cellsOf (ns.take i) = A at *
  generalize nodeCells ns[i] = B at *
  generalize cellsOf (ns.drop (i + 1)) = C at *
  have e2 : (A ++ (B ++ C)).take (i * 33) = A := by rw [← l1, List.take_left]
  have e3 : (A ++ (B ++ C)).drop (i * 33 + 33) = C := by
    rw [← List.append_assoc, show i * 33 + 33 = (A ++ B).length from by simp [l1, l2], List.drop_left]
  rw [e2, e3]
  simp
end Go.Proofs.YtpklkefnmoaaaaaGreatDoor

/- The store: what lay leaves, without its code. -/
namespace Go.Proofs.YtpklkefnmoaaaaaGreatDoor
open Go.RowKit
set_option linter.unusedVariables false
set_option linter.unusedSimpArgs false

structure PutRel (s s' : SS) (p : Nat) (o : Option (Array Value)) (al : Nat) : Prop where
  log : s'.log = s.log
  n : s'.n = s.n
  pins : s'.pins = s.pins
  alive : s'.alive = al
  node : ∀ q, s'.node q = if q = p then o else s.node q
def LayRel (s s' : SS) (p : Nat) (h : Array Value) : Prop := PutRel s s' p (some h) (s.alive + 1)

def LayPost (w : World) (b : Nat) (s : SS) (p : Nat) (h : Array Value) (e : Ending) (w' : World) : Prop :=
  e = .returned (.tuple #[]) ∧ ∃ s', StIs w' b s' ∧ LayRel s s' p h ∧ Mv (s.foot b) (s'.foot b) w w'

theorem qkqa {log p q : Nat} (h1 : qk log p = qk log q) (h2 : qa log p = qa log q) : p = q := by
  unfold qk qa at *
  rw [← Nat.div_add_mod p (2 ^ log), ← Nat.div_add_mod q (2 ^ log), h1, h2]

theorem find_split {α : Type} {P : α → Bool} : ∀ {l : List α} {x : α}, l.find? P = some x → ∃ l1 l2, l = l1 ++ x :: l2 ∧ ∀ y ∈ l1, P y = false := by
  intro l
  induction l with
  | nil => intro x h; simp at h
  | cons y l ih =>
    intro x h
    by_cases hy : P y = true
    · rw [List.find?_cons_of_pos hy] at h
      simp at h
      exact ⟨[], l, by simp [h], by simp⟩
    · rw [List.find?_cons_of_neg (by simpa using hy)] at h
      obtain ⟨l1, l2, rfl, h2⟩ := ih h
      refine ⟨y :: l1, l2, rfl, ?_⟩
      intro z hz
      rcases List.mem_cons.1 hz with rfl | hz
      · simpa using hy
      · exact h2 z hz

def Off (c g : Nat) (k : Nat) : Prop := c ≠ k ∧ g ≠ k

theorem put_close {w w' : World} {b p c g cap al : Nat} {s : SS} {o : Option (Array Value)} {l1 l2 : List Ck} {X : Option Ck} {ns ns' : List (Option (Array Value))} {F : List Nat}
    (hst : StIs w b s) (hp : p < 18446744073709551616) (hpn : p < s.n) (hlen' : ns'.length ≤ 2 ^ s.log) (hlive' : 0 < liveOf ns') (hget : ∀ i, (ns'[i]?).join = if i = qa s.log p then o else (ns[i]?).join)
    (hal : (((l1 ++ (⟨qk s.log p, c, g, cap, ns'⟩ : Ck) :: l2)).map fun x => liveOf x.ns).sum = al) (hal2 : al ≤ 1099511627776)
    (hX : ∀ x, X = some x → x.k = qk s.log p ∧ x.ns = ns) (hX0 : X = none → ns = []) (hs : s.cks = l1 ++ X.toList ++ l2) (hk : ∀ y ∈ l1 ++ l2, y.k ≠ qk s.log p)
    (hch : Chg F w w') (hF : ∀ k ∈ F, k ∈ s.foot b ∨ w.heap.size ≤ k) (hF1 : ∀ y ∈ l1 ++ l2, y.c ∉ F ∧ y.nb ∉ F) (hF2 : s.pm ∉ F)
    (hb : w'.heap[b]? = some (.cells #[.int .i64 s.log, .int .u64 s.n, .int .u64 al, .map (some s.cm), .map (some s.pm)] 150 (0, 0)))
    (hm : MapIs encK w' s.cm ((l1 ++ ⟨qk s.log p, c, g, cap, ns'⟩ :: l2).map fun x => (x.k, .pointer (some ⟨x.c, 0, none⟩))))
    (hx : CkIs w' ⟨qk s.log p, c, g, cap, ns'⟩)
    (hcg : c ≠ g) (hoff : Off c g b ∧ Off c g s.cm ∧ Off c g s.pm ∧ ∀ y ∈ l1 ++ l2, Off c g y.c ∧ Off c g y.nb)
    (hcF : (c ∈ s.foot b ∨ w.heap.size ≤ c) ∧ (g ∈ s.foot b ∨ w.heap.size ≤ g)) :
    ∃ s', StIs w' b s' ∧ PutRel s s' p o al ∧ Mv (s.foot b) (s'.foot b) w w' := by
  obtain ⟨hb0, hm0, hpm, hck, hap, hok⟩ := hst
  have hin : ∀ y ∈ l1 ++ l2, y ∈ s.cks := by
    intro y hy
    rw [hs]
    rcases List.mem_append.1 hy with q | q <;> simp [q]
  have hnode : ∀ q, ({ s with cks := l1 ++ ⟨qk s.log p, c, g, cap, ns'⟩ :: l2 } : SS).node q = if q = p then o else s.node q := by
    intro q
    have hf1 : ∀ (l : List Ck), (∀ y ∈ l, y.k ≠ qk s.log p) → qk s.log q = qk s.log p → l.find? (fun x => decide (x.k = qk s.log q)) = none := by
      intro l hl e
      rw [List.find?_eq_none]
      intro y hy
      simp only [decide_eq_true_eq]
      rw [e]
      exact hl y hy
    have hl1 := hf1 l1 (fun y hy => hk y (by simp [hy]))
    have hl2 := hf1 l2 (fun y hy => hk y (by simp [hy]))
    unfold SS.node SS.look
    simp only [hs, List.find?_append, List.find?_cons]
    by_cases e : qk s.log q = qk s.log p
    · rw [hl1 e]
      simp only [e, decide_true, Option.none_or, Option.bind_some]
      rw [hget]
      have hql2 := hl2 e
      rw [e] at hql2
      by_cases ea : qa s.log q = qa s.log p
      · rw [if_pos ea, if_pos (qkqa e ea)]
      · rw [if_neg ea, if_neg (fun q' => ea (by rw [q']))]
        cases hXe : X with
        | none =>
          rw [hX0 hXe]
          simp [hql2]
        | some x =>
          simp [(hX x hXe).1, (hX x hXe).2]
    · rw [if_neg (fun q' => e (by rw [q']))]
      have e' : ¬ qk s.log p = qk s.log q := fun q' => e q'.symm
      simp only [e', decide_false]
      cases hXe : X with
      | none => simp
      | some x =>
        have : ¬ x.k = qk s.log q := by rw [(hX x hXe).1]; exact e'
        simp [this]
  refine ⟨{ s with cks := l1 ++ ⟨qk s.log p, c, g, cap, ns'⟩ :: l2 }, ?_, ?_, ?_⟩
  · refine ⟨?_, hm, hpm.chg hch hF2, ?_, ?_, ?_⟩
    · rw [hb]
      unfold SS.alive
      simp only [hal]
    · intro y hy
      simp only [List.mem_append, List.mem_cons] at hy
      rcases hy with hy | rfl | hy
      · have := hF1 y (by simp [hy]); exact (hck y (hin y (by simp [hy]))).chg hch this.1 this.2
      · exact hx
      · have := hF1 y (by simp [hy]); exact (hck y (hin y (by simp [hy]))).chg hch this.1 this.2
    · refine ⟨hap.head, ?_, ?_⟩
      · intro y hy
        simp only [List.mem_append, List.mem_cons] at hy
        rcases hy with hy | rfl | hy
        · exact hap.each y (hin y (by simp [hy]))
        · exact ⟨hcg, hoff.1.1, hoff.2.1.1, hoff.2.2.1.1, hoff.1.2, hoff.2.1.2, hoff.2.2.1.2⟩
        · exact hap.each y (hin y (by simp [hy]))
      · have h2 := hap.two
        rw [hs] at h2
        have h2 : (l1 ++ l2).Pairwise fun x y => x.c ≠ y.c ∧ x.c ≠ y.nb ∧ x.nb ≠ y.c ∧ x.nb ≠ y.nb := by
          refine h2.sublist ?_
          rw [List.append_assoc]
          exact List.Sublist.append (List.Sublist.refl _) (List.sublist_append_right _ _)
        rw [List.pairwise_append] at h2 ⊢
        obtain ⟨p1, p2, p3⟩ := h2
        refine ⟨p1, List.pairwise_cons.2 ⟨?_, p2⟩, ?_⟩
        · intro y hy
          have := hoff.2.2.2 y (by simp [hy])
          exact ⟨this.1.1, this.2.1, this.1.2, this.2.2⟩
        · intro x hx y hy
          rcases List.mem_cons.1 hy with rfl | hy
          · have := hoff.2.2.2 x (by simp [hx])
            exact ⟨this.1.1.symm, this.1.2.symm, this.2.1.symm, this.2.2.symm⟩
          · exact p3 x hx y hy
    · refine ⟨hok.log, hok.n, ?_, hok.pin, ?_, by unfold SS.alive; simp only [hal]; exact hal2⟩
      rotate_left
      · intro q hq
        rw [hnode q] at hq
        by_cases e : q = p
        · rw [e]; exact hpn
        · rw [if_neg e] at hq; exact hok.top q hq
      intro y hy
      simp only [List.mem_append, List.mem_cons] at hy
      rcases hy with hy | rfl | hy
      · exact hok.key y (hin y (by simp [hy]))
      · refine ⟨hlen', hlive', ?_⟩
        · simp only [qk]
          exact Nat.lt_of_le_of_lt (Nat.div_mul_le_self _ _) hp
      · exact hok.key y (hin y (by simp [hy]))
  · exact ⟨rfl, rfl, rfl, hal, hnode⟩
  · refine ⟨hch.mono ?_, ?_⟩
    · intro k hk hlt
      rcases hF k hk with q | q
      · exact q
      · omega
    · intro k hk
      simp only [SS.foot, List.mem_cons, List.mem_flatMap, List.mem_append, List.not_mem_nil, or_false] at hk
      rcases hk with rfl | rfl | rfl | ⟨y, hy, hky⟩
      · left; simp [SS.foot]
      · left; simp [SS.foot]
      · left; simp [SS.foot]
      · have hold : y ∈ l1 ++ l2 → k ∈ s.foot b := by
          intro hy
          simp only [SS.foot, List.mem_cons, List.mem_flatMap, List.not_mem_nil, or_false]
          exact .inr (.inr (.inr ⟨y, hin y hy, hky⟩))
        rcases hy with hy | rfl | hy
        · left; exact hold (by simp [hy])
        · rcases hky with rfl | rfl
          · exact hcF.1
          · exact hcF.2
        · left; exact hold (by simp [hy])

theorem lay_close {w w' : World} {b p c g cap : Nat} {s : SS} {h : Array Value} {l1 l2 : List Ck} {X : Option Ck} {ns : List (Option (Array Value))} {F : List Nat}
    (hst : StIs w b s) (hp : p < 18446744073709551616) (hpn : p < s.n) (hno : (ns[qa s.log p]?).join = none) (hal2 : s.alive < 1099511627776)
    (hX : ∀ x, X = some x → x.k = qk s.log p ∧ x.ns = ns) (hX0 : X = none → ns = []) (hs : s.cks = l1 ++ X.toList ++ l2) (hk : ∀ y ∈ l1 ++ l2, y.k ≠ qk s.log p)
    (hch : Chg F w w') (hF : ∀ k ∈ F, k ∈ s.foot b ∨ w.heap.size ≤ k) (hF1 : ∀ y ∈ l1 ++ l2, y.c ∉ F ∧ y.nb ∉ F) (hF2 : s.pm ∉ F)
    (hb : w'.heap[b]? = some (.cells #[.int .i64 s.log, .int .u64 s.n, .int .u64 (s.alive + 1 : Nat), .map (some s.cm), .map (some s.pm)] 150 (0, 0)))
    (hm : MapIs encK w' s.cm ((l1 ++ ⟨qk s.log p, c, g, cap, layNs ns (qa s.log p) h⟩ :: l2).map fun x => (x.k, .pointer (some ⟨x.c, 0, none⟩))))
    (hx : CkIs w' ⟨qk s.log p, c, g, cap, layNs ns (qa s.log p) h⟩)
    (hcg : c ≠ g) (hoff : Off c g b ∧ Off c g s.cm ∧ Off c g s.pm ∧ ∀ y ∈ l1 ++ l2, Off c g y.c ∧ Off c g y.nb)
    (hcF : (c ∈ s.foot b ∨ w.heap.size ≤ c) ∧ (g ∈ s.foot b ∨ w.heap.size ≤ g)) :
    ∃ s', StIs w' b s' ∧ LayRel s s' p h ∧ Mv (s.foot b) (s'.foot b) w w' := by
  have hok := hst.2.2.2.2.2
  have hnsl : ns.length ≤ 2 ^ s.log := by
    cases hXe : X with
    | none => rw [hX0 hXe]; simp
    | some x =>
      have := (hok.key x (by rw [hs, hXe]; simp)).1
      rw [(hX x hXe).2] at this
      exact this
  have hqa : qa s.log p < 2 ^ s.log := Nat.mod_lt _ (Nat.two_pow_pos _)
  have hlive : liveOf (layNs ns (qa s.log p) h) = liveOf ns + 1 := layNs_live ns _ h hno
  have hal : (((l1 ++ (⟨qk s.log p, c, g, cap, layNs ns (qa s.log p) h⟩ : Ck) :: l2)).map fun x => liveOf x.ns).sum = s.alive + 1 := by
    unfold SS.alive
    rw [hs]
    cases hXe : X with
    | none =>
      have := hX0 hXe
      subst this
      have h0 : liveOf ([] : List (Option (Array Value))) = 0 := rfl
      simp [hlive, h0]; omega
    | some x =>
      have := (hX x hXe).2
      simp [hlive, this]; omega
  exact put_close hst hp hpn (by rw [layNs_length]; omega) (by omega) (fun i => layNs_get ns _ h i) hal hal2 hX hX0 hs hk hch hF hF1 hF2 hb hm hx hcg hoff hcF
end Go.Proofs.YtpklkefnmoaaaaaGreatDoor

/- The store: lay. -/
namespace Go.Proofs.YtpklkefnmoaaaaaGreatDoor
open Go.RowKit
set_option linter.unusedVariables false
set_option linter.unusedSimpArgs false

def LayInv (w5 : World) (c : Nat) (v : Value) (ns : List (Option (Array Value))) (live : Nat) (at_ : Nat) (k : Nat) (wr : World) : Prop :=
  ∃ v' j, wr.heap[c]? = some (.cells #[v', .int .i64 live] 218 (0, 0)) ∧ wr.ownsRow 0 209 33 v' (ns.length + j) (cellsOf (ns ++ List.replicate j none)) ∧ k = at_ + 1 - (ns.length + j) ∧ j ≤ at_ + 1 - ns.length ∧
    Chg (c :: v.ownBlock.toList) w5 wr ∧ (∀ g, v'.ownBlock = some g → v.ownBlock = some g ∨ w5.heap.size ≤ g)

theorem ownsRow_slice {w : World} {base : Nat} {e : TypeId} {size : Nat} {v : Value} {n : Nat} {xs : List Value} (h : w.ownsRow base e size v n xs) : ∃ a cap, v = .slice a n cap ∧ n ≤ cap := by
  rcases h.2 with ⟨rfl, rfl⟩ | ⟨g, cap, cur, rfl, _, _, hc, _⟩
  · exact ⟨none, 0, rfl, Nat.le_refl _⟩
  · exact ⟨_, _, rfl, hc⟩
theorem ownsRow_chg {w w' : World} {base : Nat} {e : TypeId} {size : Nat} {v : Value} {n : Nat} {xs : List Value} {F : List Nat} (h : w.ownsRow base e size v n xs) (hc : Chg F w w') (hF : ∀ g, v.ownBlock = some g → g ∉ F) : w'.ownsRow base e size v n xs := by
  obtain ⟨hl, hr | ⟨g, cap, cur, hv, hb, hg, rest⟩⟩ := h
  · exact ⟨hl, .inl hr⟩
  · exact ⟨hl, .inr ⟨g, cap, cur, hv, hb, hc.at hg (hF g (by rw [hv]; rfl)), rest⟩⟩

theorem LayInv.step {w3 wr w6 : World} {c j live at_ : Nat} {v v' v2 : Value} {ns : List (Option (Array Value))}
    (hC6 : w6.heap[c]? = some (.cells #[v', .int .i64 live] 218 (0, 0)))
    (hown2 : w6.ownsRow 0 209 33 v2 (ns.length + j + 1) (cellsOf (ns ++ List.replicate j none) ++ (nodeOf zeroHash false).toList))
    (hgr2 : (wr.alloc (.cells (nodeOf zeroHash false) 209)).grownBy w6 v'.ownBlock) (hat2 : v2.ownBlock = v'.ownBlock ∨ v2.ownBlock = some (wr.alloc (.cells (nodeOf zeroHash false) 209)).heap.size)
    (hlt : ns.length + j ≤ at_) (hj : j ≤ at_ + 1 - ns.length) (hch : Chg (c :: v.ownBlock.toList) w3 wr) (hown : ∀ g, v'.ownBlock = some g → v.ownBlock = some g ∨ w3.heap.size ≤ g) (hne : ¬ v'.ownBlock = some c) (hcl3 : c < w3.heap.size) (hcl : c < wr.heap.size) :
    LayInv w3 c v ns live at_ (at_ + 1 - (ns.length + (j + 1))) (w6.setCell ⟨c, 0, none⟩ v2) := by
  have hv2 : ∀ g, v2.ownBlock = some g → v.ownBlock = some g ∨ w3.heap.size ≤ g := by
    intro g hg
    rcases hat2 with e | e
    · exact hown g (e ▸ hg)
    · rw [e] at hg
      simp at hg
      have := hch.size
      right; omega
  have h6 : Chg (c :: v.ownBlock.toList) w3 w6 := by
    refine (hch.alloc _).trans (Chg.of_grown (F := v'.ownBlock.toList) hgr2 (by intro g hg; left; simp [hg])) ?_
    intro g hg
    simp at hg
    rcases hown g hg with e | e
    · left; simp [e]
    · right; exact e
  have hc2 : ∀ g, v2.ownBlock = some g → g ∉ [c] := by
    intro g hg e
    simp at e
    subst e
    rcases hat2 with e | e
    · rw [e] at hg; exact hne hg
    · rw [e] at hg; simp at hg; omega
  refine ⟨v2, j + 1, blk_set hC6 0 v2, ?_, rfl, by omega, h6.setCell (by simp) _, hv2⟩
  have e : cellsOf (ns ++ List.replicate (j + 1) none) = cellsOf (ns ++ List.replicate j none) ++ (nodeOf zeroHash false).toList := by
    rw [List.replicate_succ', ← List.append_assoc, cellsOf_append, cellsOf_cons, nodeCells_none]
    simp [cellsOf]
  rw [e]
  exact ownsRow_chg hown2 ((Chg.refl _ _).setCell (F := [c]) (by simp) _) hc2

theorem take_mid (cur N : List Value) (a M : Nat) (hN : N.length = 33) (h1 : a + 33 ≤ M) (ha : a ≤ cur.length) :
    (cur.take a ++ N ++ cur.drop (a + 33)).take M = (cur.take M).take a ++ N ++ (cur.take M).drop (a + 33) := by
  have l1 : (cur.take a ++ N).length = a + 33 := by simp [hN]; omega
  rw [List.take_take, Nat.min_eq_left (by omega), List.drop_take, List.take_append, List.take_of_length_le (by omega), l1]

theorem lay_ck {wr : World} {b c g cap k at_ al : Nat} {h : Array Value} {ns : List (Option (Array Value))} {cur : Array Value}
    (hC : wr.heap[c]? = some (.cells #[.slice (some ⟨g, 0, none⟩) (ns.length + (at_ + 1 - ns.length)) cap, .int .i64 (liveOf ns)] 218 (0, 0)))
    (hg : wr.heap[g]? = some (.cells cur 209 (0, 0))) (hn : ns.length + (at_ + 1 - ns.length) ≤ cap) (hm : cap ≤ maxLen) (hs : cur.size = cap * 33)
    (ht : cur.toList.take ((ns.length + (at_ + 1 - ns.length)) * 33) = cellsOf (ns ++ List.replicate (at_ + 1 - ns.length) none)) (hI : ∀ q, some q ∈ ns → IsHash q) (hh : IsHash h)
    (hlen : ns.length ≤ 65536) (hno : (ns[at_]?).join = none) (hcg : ¬ c = g) (hbc : ¬ b = c) (hbg : ¬ b = g) :
    CkIs (((setRng wr g (at_ * 33) (nodeOf h true)).setCell ⟨c, 1, none⟩ (.int .i64 (wrap64 (↑(liveOf ns) + 1)))).setCell ⟨b, 2, none⟩ (.int .u64 al)).drew ⟨k, c, g, cap, layNs ns at_ h⟩ := by
  have hsz := nodeOf_size hh.1 true
  have hl : (layNs ns at_ h).length = ns.length + (at_ + 1 - ns.length) := by rw [layNs_length]; omega
  have hI2 : ∀ q, some q ∈ ns ++ List.replicate (at_ + 1 - ns.length) none → IsHash q := by
    intro q hq
    rw [List.mem_append] at hq
    rcases hq with hq | hq
    · exact hI q hq
    · simp [List.mem_replicate] at hq
  have hle : liveOf ns ≤ 65536 := Nat.le_trans List.countP_le_length hlen
  refine ⟨?_, ⟨?_, .inr ⟨g, cap, _, by rw [hl], Nat.zero_le _, blk_drew (blk_far (blk_far (setRng_heap hg (at_ * 33) (nodeOf h true) ?_) (by exact fun e => hcg e.symm) _) (by exact fun e => hbg e.symm) _), by rw [hl]; exact hn, hm, ?_, ?_⟩⟩, layNs_hash hh hI, hm⟩
  · have h1 : (setRng wr g (at_ * 33) (nodeOf h true)).heap[c]? = some (.cells #[.slice (some ⟨g, 0, none⟩) (ns.length + (at_ + 1 - ns.length)) cap, .int .i64 (liveOf ns)] 218 (0, 0)) :=
      (setRng_chg wr g _ _).at hC (by simpa using hcg)
    have h2 := blk_far (blk_set h1 1 (.int .i64 (wrap64 (↑(liveOf ns) + 1)))) (a := ⟨b, 2, none⟩) (by exact fun e => hbc e.symm) (.int .u64 al)
    refine (blk_drew h2).trans ?_
    have hw : wrap64 (↑(liveOf ns) + 1) = ((liveOf ns + 1 : Nat) : Int) := by unfold wrap64; omega
    rw [hw, layNs_live ns at_ h hno, hl]
    rfl
  · rw [cellsOf_length (layNs_hash hh hI)]
  · omega
  · simp only [List.size_toArray, List.length_append, List.length_take, List.length_drop, Array.length_toList, hsz, hs]
    omega
  · unfold layNs
    rw [cellsOf_set hI2 (by simp; omega), ← ht, nodeCells_some]
    rw [hsz, take_mid cur.toList (nodeOf h true).toList (at_ * 33) _ (by simpa using hsz) ?_ (by simp; omega)]
    · simp only [List.length_set, List.length_append, List.length_replicate]
    · simp only [List.length_set, List.length_append, List.length_replicate]; omega


set_option maxRecDepth 100000 in
theorem lay_some (b p : Nat) (s : SS) (h : Array Value) (w : World) (hst : StIs w b s) (hp : p < 18446744073709551616) (hh : IsHash h) (hpn : p < s.n) (hno : s.node p = none) (ha : s.alive < 1099511627776) (x : Ck) (hlk : s.look p = some x) :
    Calls Tryz.prog 172 #[.pointer (some ⟨b, 0, none⟩), .int .u64 p, .agg h] w (LayPost w b s p h) := by
  have hb := hst.blt
  have hs := hst.2.2.2.2.2.log
  have hc0 := hst.cell0
  have hsz := hh.1
  have hone := hh.one
  have hlt := hst.lt
  obtain ⟨hx, hxk⟩ := look_mem hlk
  have hxc := hlt x.c (by simp [SS.foot]; exact .inr (.inr (.inr ⟨x, hx, .inl rfl⟩)))
  have hck := hst.2.2.2.1 x hx
  have hno := Lib.hid hno
  have HXK := Lib.hid hxk
  have HLK := Lib.hid hlk
  clear hlt hxk
  go_enter Tryz.func172, Tryz.ntmps172
  go_wp2_with (go_at_call 173; refine (spot_calls _ s.log _ _ hs hp ?q1 ?q2).mono ?_; rotate_left 2; rintro e w1 ⟨rfl, hc1⟩)
  case q1 => simp; omega
  case q2 => rw [World.cell?_alloc_lt _ _ _ hb]; exact hc0
  have h00 : Chg [] w w1 := ((Chg.refl [] w).alloc _).trans hc1 (by simp)
  have hbx1 : rng? w1 w.heap.size 0 32 = some h := rng?_chg hc1 (rng?_alloc_at _ _ _ _ _ rfl hsz) (by omega) (by simp)
  have hw1 : w.heap.size < w1.heap.size := by have := hc1.size; simp at this; omega
  generalize hW2 : World.alloc w1 _ = w2
  have hc2 : Chg [] w w2 := by rw [← hW2]; exact h00.alloc _
  have hk2 : w2.cell? ⟨w1.heap.size, 0, none⟩ = some (.int .u64 (qk s.log p)) := by rw [← hW2]; simp
  have hbx2 : rng? w2 w.heap.size 0 32 = some h := by rw [← hW2, rng?_alloc_past _ _ _ _ _ hw1]; exact hbx1
  have hw2 : w1.heap.size < w2.heap.size := by rw [← hW2]; simp
  have h2 := hst.chg0 hc2
  clear hW2 hc0 hc1 h00 hbx1
  have hl2 : ∀ n, (Instr.lookup 148 (.map (some s.cm)) (.agg #[.int .u64 (qk s.log p)]) false).run Tryz.prog (w2.drewN n) = .ok (.pointer (ckPtr (s.look p))) (w2.drewN n) := fun n => (h2.drewN n).lookc p
  have hc3 := h2.cell3
  rw [hlk] at hl2
  simp only [ckPtr, Option.map_some] at hl2
  clear hlk
  go_quiet (fail)
  clear hl2 hc3
  generalize hW3 : World.drewN w2 _ = w3
  have hc3 : Chg [] w w3 := by rw [← hW3]; exact hc2.drewN _
  have hbx3 : rng? w3 w.heap.size 0 32 = some h := by rw [← hW3]; exact hbx2
  have hw3 : w.heap.size < w3.heap.size := by rw [← hW3]; show _ < w2.heap.size; omega
  clear hbx2 hk2 h2 hc2 hW3 hw2
  go_wp2
  have hS3 := hst.chg0 hc3
  obtain ⟨hC, hV, hI, hcap⟩ := hS3.2.2.2.1 x hx
  have hap := hst.2.2.2.2.1
  have hcb : ¬ x.c = b := (hap.each x hx).2.1
  have hcx : ¬ x.c = w.heap.size := by omega
  have hvb : ∀ g, (Value.slice (some ⟨x.nb, 0, none⟩) x.ns.length x.cap).ownBlock = some g → ¬ g = b ∧ ¬ g = x.c ∧ g < w.heap.size := by
    intro g hg
    simp [Value.ownBlock] at hg
    subst hg
    exact ⟨(hap.each x hx).2.2.2.2.1, fun e => (hap.each x hx).1 e.symm, hst.lt x.nb (by simp [SS.foot]; exact .inr (.inr (.inr ⟨x, hx, .inr rfl⟩)))⟩
  have hns1 : (x.ns[qa s.log p]?).join = none := by
    have := hno.out
    unfold SS.node at this
    rw [HLK.out] at this
    exact this
  have hIh := hI
  have hlen : x.ns.length ≤ 65536 := by
    have := (hst.2.2.2.2.2.key x hx).1
    have h2 : 2 ^ s.log ≤ 2 ^ 16 := Nat.pow_le_pow_right (by omega) hs
    omega
  have hat : qa s.log p < 65536 := by
    have : qa s.log p < 2 ^ s.log := Nat.mod_lt _ (Nat.two_pow_pos _)
    have h2 : 2 ^ s.log ≤ 2 ^ 16 := Nat.pow_le_pow_right (by omega) hs
    omega
  have hB3 := hS3.1
  generalize hv : (Value.slice (some ⟨x.nb, 0, none⟩) x.ns.length x.cap) = v at hC hV hvb
  generalize hns : x.ns = ns at *
  generalize hcc : x.c = c at *
  go_loopg [] (qa s.log p + 1 - ns.length) (fun k wr => LayInv w3 c v ns (liveOf ns) (qa s.log p) k wr)
  case atStart => exact ⟨v, 0, hC, by simpa using hV, by omega, by omega, Chg.refl _ _, fun g hg => .inl hg⟩
  case round =>
    obtain ⟨v', j, hC', hV', hk, hj, hch, hown⟩ := hrel
    obtain ⟨a', cap', rfl, _⟩ := ownsRow_slice hV'
    have hc0 : wr.cell? ⟨c, 0, none⟩ = some (.slice a' (ns.length + j) cap') := blk_cell hC' 0 rfl
    by_cases hlt : ns.length + j ≤ qa s.log p
    · obtain ⟨i0, hi0, hz0, hs0, hb0⟩ := infoOf i_node
      have hz33 : (nodeOf zeroHash false).size = 33 := nodeOf_size zeroHash_size false
      have hcl : c < wr.heap.size := blk_lt hC'
      have hne : ¬ (some c = (Value.slice a' (ns.length + j) cap').ownBlock) := by
        intro e
        rcases hown c e.symm with e1 | e1
        · exact (hvb c e1).2.1 rfl
        · have := blk_lt hC; omega
      have hbase : 0 ≤ (wr.alloc (.cells (nodeOf zeroHash false) 209)).heap.size := Nat.zero_le _
      have hnew : ∀ j u, (nodeOf zeroHash false).toList[j]? = some u → (wr.alloc (.cells (nodeOf zeroHash false) 209)).cell? ((⟨wr.heap.size, 0, none⟩ : Addr).add j) = some u := by
        intro j u hu
        rw [Addr.add_mid, Nat.zero_add, cell_of_row _ _ _ _ _ _ (blk_new wr _)]
        simpa using hu
      have hone0 : ∀ u ∈ (nodeOf zeroHash false).toList, u.oneCell' = true := fun u hu => (Array.all_eq_true_iff_forall_mem.1 (nodeOf_one zeroHash_one false)) u (by simpa using hu)
      go_wp2_with (at_builtin; refine wpList_append_own_at _ rfl _ _ 216 rfl 0 209 i0 (.agg (nodeOf zeroHash false)) 33 33 u_nodes hi0 hz0 hs0 hb0 hz33 (by decide) _ _ _ rfl (hV'.alloc _) ⟨wr.heap.size, 0, none⟩ 1 1 (nodeOf zeroHash false).toList rfl ?c1 hnew hone0 ?c4 ?c5 hbase ?_; rotate_left 3; intro v2 w6 hown2 hgr2 _ hat2; obtain ⟨a2, cap2, rfl, hcp2⟩ := ownsRow_slice hown2; have hC6 := (hgr2.block c (by simp; omega) hne).trans (blk_alloc hC' _); have hc6 : w6.cell? ⟨c, 0, none⟩ = some (.slice a' (ns.length + j) cap') := blk_cell hC6 0 rfl; have hf6 := blk_frozen hC6 0)
      case c1 => simpa using hz33
      case c4 => unfold maxLen; omega
      case c5 => omega
      go_roundg (qa s.log p + 1 - (ns.length + (j + 1)))
      case measure => omega
      case rel => exact LayInv.step hC6 hown2 hgr2 hat2 hlt hj hch hown (fun e => hne e.symm) (blk_lt hC) hcl
    · obtain rfl : j = qa s.log p + 1 - ns.length := by omega
      have hbF : b ∉ c :: v.ownBlock.toList := by
        simp only [List.mem_cons, Option.mem_toList, not_or]
        exact ⟨fun e => hcb e.symm, fun e => (hvb b e).1 rfl⟩
      have hxF : w.heap.size ∉ c :: v.ownBlock.toList := by
        simp only [List.mem_cons, Option.mem_toList, not_or]
        exact ⟨fun e => hcx e.symm, fun e => by have := (hvb _ e).2.2; omega⟩
      obtain ⟨hl5, hr5 | ⟨g, cap5, cur5, hv5, _, hg5, hn5, hm5, hs5, ht5⟩⟩ := hV'
      · exfalso; omega
      · simp only [Value.slice.injEq] at hv5
        obtain ⟨rfl, _, rfl⟩ := hv5
        have hgc : ¬ c = g := by
          intro e
          rcases hown g rfl with e1 | e1
          · exact (hvb g e1).2.1 e.symm
          · have := blk_lt hC; omega
        have hgb : ¬ b = g := by
          intro e
          rcases hown g rfl with e1 | e1
          · exact (hvb g e1).1 e.symm
          · have := blk_lt hB3; omega
        have hgx : ¬ w.heap.size = g := by
          intro e
          rcases hown g rfl with e1 | e1
          · have := (hvb g e1).2.2; omega
          · omega
        have hbx : rng? wr w.heap.size 0 32 = some h := rng?_chg hch hbx3 (by omega) hxF
        have hmay : may wr g (qa s.log p * 33) 33 = true := may_row _ _ hg5 (by rw [hs5]; omega)
        have hbr := hch.at hB3 hbF
        have hc1 : wr.cell? ⟨c, 1, none⟩ = some (.int .i64 (liveOf ns)) := blk_cell hC' 1 rfl
        have hcf := blk_frozen hC' 1
        have hb2 : wr.cell? ⟨b, 2, none⟩ = some (.int .u64 s.alive) := blk_cell hbr 2 rfl
        have hbf := blk_frozen hbr 2
        have hcb' : ¬ b = c := fun e => hcb e.symm
        clear hk
        go_wp2
        go_region
        go_wp2
        go_end0
        refine ⟨rfl, ?_⟩
        have hqn : (ns ++ List.replicate (qa s.log p + 1 - ns.length) none).length = ns.length + (qa s.log p + 1 - ns.length) := by simp
        have hX' : CkIs (((setRng wr g (qa s.log p * 33) (nodeOf h true)).setCell ⟨c, 1, none⟩ (.int .i64 (wrap64 (↑(liveOf ns) + 1)))).setCell ⟨b, 2, none⟩ (.int .u64 (↑s.alive + 1))).drew ⟨qk s.log p, c, g, cap', layNs ns (qa s.log p) h⟩ :=
          lay_ck hC' hg5 hn5 hm5 hs5 ht5 hIh hh hlen hns1 hgc hcb' hgb
        subst hv
        subst hns
        subst hcc
        obtain ⟨l1, l2, hsp, _⟩ := find_split HLK.out
        have hnd : (s.cks.map (·.k)).Nodup := by
          obtain ⟨_, _, _, _, hn, _⟩ := hst.2.1
          rw [List.map_map] at hn
          exact hn
        have htw := hap.two
        rw [hsp] at hnd htw
        have hne : ∀ y ∈ l1 ++ l2, y.k ≠ qk s.log p ∧ (x.c ≠ y.c ∧ x.c ≠ y.nb ∧ x.nb ≠ y.c ∧ x.nb ≠ y.nb) := by
          rw [← HXK.out]
          rw [List.map_append, List.map_cons, List.nodup_append, List.nodup_cons] at hnd
          rw [List.pairwise_append, List.pairwise_cons] at htw
          intro y hy
          rcases List.mem_append.1 hy with hy | hy
          · have := htw.2.2 y hy x (by simp)
            exact ⟨fun e => hnd.2.2 y.k (List.mem_map.2 ⟨y, hy, rfl⟩) x.k (by simp) e, this.1.symm, this.2.2.1.symm, this.2.1.symm, this.2.2.2.symm⟩
          · exact ⟨fun e => hnd.2.1.1 (by rw [← e]; exact List.mem_map.2 ⟨y, hy, rfl⟩), htw.2.1.1 y hy⟩
        have hgo : g = x.nb ∨ w.heap.size ≤ g := by
          rcases hown g rfl with e | e
          · simp [Value.ownBlock] at e; exact .inl e.symm
          · right; omega
        have hin : ∀ y ∈ l1 ++ l2, y ∈ s.cks := by intro y hy; rw [hsp]; rcases List.mem_append.1 hy with q | q <;> simp [q]
        have hltf := hst.lt
        have hfx : x.c ∈ s.foot b ∧ x.nb ∈ s.foot b := by
          simp only [SS.foot, List.mem_cons, List.mem_flatMap, List.not_mem_nil, or_false]
          exact ⟨.inr (.inr (.inr ⟨x, hx, .inl rfl⟩)), .inr (.inr (.inr ⟨x, hx, .inr rfl⟩))⟩
        have hoffg : ∀ k, k < w.heap.size → x.nb ≠ k → g ≠ k := by
          intro k hk hne e
          rcases hgo with q | q
          · exact hne (q ▸ e)
          · omega
        have hmem : ∀ y ∈ s.cks, y.c < w.heap.size ∧ y.nb < w.heap.size := by
          intro y hy
          refine ⟨hltf _ ?_, hltf _ ?_⟩ <;> simp only [SS.foot, List.mem_cons, List.mem_flatMap, List.not_mem_nil, or_false]
          · exact .inr (.inr (.inr ⟨y, hy, .inl rfl⟩))
          · exact .inr (.inr (.inr ⟨y, hy, .inr rfl⟩))
        have hea := hap.each x hx
        have hcm := hltf s.cm (by simp [SS.foot])
        have hpm := hltf s.pm (by simp [SS.foot])
        have hW : Chg [b, x.c, x.nb] w (((setRng wr g (qa s.log p * 33) (nodeOf h true)).setCell ⟨x.c, 1, none⟩ (.int .i64 (wrap64 (↑(liveOf x.ns) + 1)))).setCell ⟨b, 2, none⟩ (.int .u64 (↑s.alive + 1))).drew := by
          refine ((((hc3.of_nil.trans hch ?_).setRng ?_ _ _).setCell (by simp) _).setCell (by simp) _).drew
          · intro k hk
            simp [Value.ownBlock] at hk
            left; rcases hk with q | q <;> simp [q]
          · rcases hgo with q | q
            · left; simp [q]
            · right; exact q
        refine lay_close (X := some x) (F := [b, x.c, x.nb]) hst hp hpn hns1 ha (fun y hy => by simp at hy; subst hy; exact ⟨HXK.out, rfl⟩) (by simp) (by rw [hsp]; simp) (fun y hy => (hne y hy).1) hW ?_ ?_ ?_ ?_ ?_ hX' hgc ?_ ?_
        · intro k hk
          simp at hk
          left
          rcases hk with rfl | rfl | rfl
          · simp [SS.foot]
          · exact hfx.1
          · exact hfx.2
        · intro y hy
          have h1 := (hne y hy).2
          have h2 := hap.each y (hin y hy)
          simp only [List.mem_cons, List.not_mem_nil, or_false, not_or]
          exact ⟨⟨h2.2.1, h1.1.symm, h1.2.2.1.symm⟩, h2.2.2.2.2.1, h1.2.1.symm, h1.2.2.2.symm⟩
        · simp only [List.mem_cons, List.not_mem_nil, or_false, not_or]
          exact ⟨hap.head.2.1.symm, hea.2.2.2.1.symm, hea.2.2.2.2.2.2.symm⟩
        · have h1 : (setRng wr g (qa s.log p * 33) (nodeOf h true)).heap[b]? = some (.cells #[.int .i64 s.log, .int .u64 s.n, .int .u64 s.alive, .map (some s.cm), .map (some s.pm)] 150 (0, 0)) :=
            (setRng_chg wr g _ _).at hbr (by simpa using hgb)
          have h2 := blk_set (blk_far h1 (a := ⟨x.c, 1, none⟩) hcb' (.int .i64 (wrap64 (↑(liveOf x.ns) + 1)))) 2 (.int .u64 (↑s.alive + 1))
          exact (blk_drew h2).trans rfl
        · have h1 := hst.2.1.chg hW (by simp only [List.mem_cons, List.not_mem_nil, or_false, not_or]; exact ⟨hap.head.1.symm, hea.2.2.1.symm, hea.2.2.2.2.2.1.symm⟩)
          have e : (s.cks.map fun x => (x.k, Value.pointer (some ⟨x.c, 0, none⟩))) = ((l1 ++ (⟨qk s.log p, x.c, g, cap', layNs x.ns (qa s.log p) h⟩ : Ck) :: l2).map fun x => (x.k, Value.pointer (some ⟨x.c, 0, none⟩))) := by
            rw [hsp]
            simp [HXK.out]
          rw [e] at h1
          exact h1
        · refine ⟨⟨hea.2.1, hoffg b hb hea.2.2.2.2.1⟩, ⟨hea.2.2.1, hoffg _ hcm hea.2.2.2.2.2.1⟩, ⟨hea.2.2.2.1, hoffg _ hpm hea.2.2.2.2.2.2⟩, ?_⟩
          intro y hy
          have h1 := (hne y hy).2
          have h2 := hmem y (hin y hy)
          exact ⟨⟨h1.1, hoffg _ h2.1 h1.2.2.1⟩, h1.2.1, hoffg _ h2.2 h1.2.2.2⟩
        · refine ⟨.inl hfx.1, ?_⟩
          rcases hgo with q | q
          · left; rw [q]; exact hfx.2
          · right; exact q

set_option maxRecDepth 100000 in
theorem lay_none (b p : Nat) (s : SS) (h : Array Value) (w : World) (hst : StIs w b s) (hp : p < 18446744073709551616) (hh : IsHash h) (hpn : p < s.n) (ha : s.alive < 1099511627776) (hlk : s.look p = none) :
    Calls Tryz.prog 172 #[.pointer (some ⟨b, 0, none⟩), .int .u64 p, .agg h] w (LayPost w b s p h) := by
  have hb := hst.blt
  have hs := hst.2.2.2.2.2.log
  have hc0 := hst.cell0
  have hsz := hh.1
  have hone := hh.one
  have HLK := Lib.hid hlk
  go_enter Tryz.func172, Tryz.ntmps172
  go_wp2_with (go_at_call 173; refine (spot_calls _ s.log _ _ hs hp ?q1 ?q2).mono ?_; rotate_left 2; rintro e w1 ⟨rfl, hc1⟩)
  case q1 => simp; omega
  case q2 => rw [World.cell?_alloc_lt _ _ _ hb]; exact hc0
  have h00 : Chg [] w w1 := ((Chg.refl [] w).alloc _).trans hc1 (by simp)
  have hbx1 : rng? w1 w.heap.size 0 32 = some h := rng?_chg hc1 (rng?_alloc_at _ _ _ _ _ rfl hsz) (by omega) (by simp)
  have hw1 : w.heap.size < w1.heap.size := by have := hc1.size; simp at this; omega
  generalize hW2 : World.alloc w1 _ = w2
  have hc2 : Chg [] w w2 := by rw [← hW2]; exact h00.alloc _
  have hk2 : w2.cell? ⟨w1.heap.size, 0, none⟩ = some (.int .u64 (qk s.log p)) := by rw [← hW2]; simp
  have hbx2 : rng? w2 w.heap.size 0 32 = some h := by rw [← hW2, rng?_alloc_past _ _ _ _ _ hw1]; exact hbx1
  have hw2 : w1.heap.size < w2.heap.size := by rw [← hW2]; simp
  have h2 := hst.chg0 hc2
  clear hW2 hc0 hc1 h00 hbx1
  have hl2 : ∀ n, (Instr.lookup 148 (.map (some s.cm)) (.agg #[.int .u64 (qk s.log p)]) false).run Tryz.prog (w2.drewN n) = .ok (.pointer (ckPtr (s.look p))) (w2.drewN n) := fun n => (h2.drewN n).lookc p
  have hc3 := h2.cell3
  rw [hlk] at hl2
  simp only [ckPtr, Option.map_none] at hl2
  clear hlk
  go_quiet (fail)
  clear hl2 hc3
  go_wp2
  generalize hW4 : World.alloc _ _ = w4
  have hc4 : Chg [] w w4 := by rw [← hW4]; exact (hc2.drewN _).alloc _
  have hbx4 : rng? w4 w.heap.size 0 32 = some h := by rw [← hW4, rng?_alloc_past _ _ _ _ _ (by show _ < w2.heap.size; omega)]; exact hbx2
  have hC4 : w4.heap[w2.heap.size]? = some (.cells #[.slice none 0 0, .int .i64 0] 218 (0, 0)) := by rw [← hW4]; exact blk_new (w2.drewN _) _
  have hk4 : w4.cell? ⟨w1.heap.size, 0, none⟩ = some (.int .u64 (qk s.log p)) := by rw [← hW4, World.cell?_alloc_lt _ _ _ (by exact hw2)]; exact hk2
  have hw4 : w2.heap.size < w4.heap.size := blk_lt hC4
  have h4 := hst.chg0 hc4
  have hc43 := h4.cell3
  clear hW4 hbx2 hk2 h2
  generalize hcc : w2.heap.size = c at *
  obtain ⟨o, hrun0, hmap⟩ := (h4.chg0 ((Chg.refl [] w4).drew)).2.1.upd encK_law u_mapc (qk s.log p) (.pointer (some ⟨c, 0, none⟩))
  have hrun : (Instr.mapUpdate 148 (.map (some s.cm)) (.agg #[.int .u64 (qk s.log p)]) (.pointer (some ⟨c, 0, none⟩))).run Tryz.prog w4.drew = .ok () (setMap w4.drew s.cm o) := hrun0
  clear hrun0
  go_region
  generalize hW3 : setMap w4.drew s.cm o = w3
  rw [hW3] at hmap
  have hap := hst.2.2.2.2.1
  have hltf := hst.lt
  have hcmlt := hltf s.cm (by simp [SS.foot])
  have hcw : w.heap.size < c := by omega
  have hc34 : Chg [s.cm] w4 w3 := by rw [← hW3]; exact ((Chg.refl [s.cm] w4).drew).trans (setMap_chg _ _ _) (by simp)
  have hc3 : Chg [s.cm] w w3 := (hc4.of_nil).trans hc34 (by simp)
  have hB3 := hc3.at hst.1 (by simpa using hap.head.1)
  have hbx3 : rng? w3 w.heap.size 0 32 = some h := rng?_chg hc34 hbx4 (by omega) (by simp; omega)
  have hC : w3.heap[c]? = some (.cells #[.slice none 0 0, .int .i64 0] 218 (0, 0)) := hc34.at hC4 (by simp; omega)
  have hw3 : w.heap.size < w3.heap.size := by have := blk_lt hC; omega
  clear hbx4 hC4 hk4 h4 hc43 hW3 hc34 hw1 hw2 hc4 hc2 hrun hcc hw4
  have hcb : ¬ c = b := by omega
  have hcx : ¬ c = w.heap.size := by omega
  have hat : qa s.log p < 65536 := by
    have : qa s.log p < 2 ^ s.log := Nat.mod_lt _ (Nat.two_pow_pos _)
    have h2 : 2 ^ s.log ≤ 2 ^ 16 := Nat.pow_le_pow_right (by omega) hs
    omega
  obtain ⟨ns, hns⟩ : ∃ ns : List (Option (Array Value)), ns = [] := ⟨_, rfl⟩
  obtain ⟨v, hv⟩ : ∃ v : Value, v = .slice none 0 0 := ⟨_, rfl⟩
  rw [← hv] at hC
  have hC : w3.heap[c]? = some (.cells #[v, .int .i64 (liveOf ns)] 218 (0, 0)) := by rw [hC, hns]; rfl
  have hV : w3.ownsRow 0 209 33 v ns.length (cellsOf ns) := by rw [hns, hv]; exact World.ownsRow_nil _ _ _ _
  have hvb : ∀ g, v.ownBlock = some g → ¬ g = b ∧ ¬ g = c ∧ g < w.heap.size := by rw [hv]; intro g hg; simp [Value.ownBlock] at hg
  have hIh : ∀ q, some q ∈ ns → IsHash q := by rw [hns]; simp
  have hlen : ns.length ≤ 65536 := by rw [hns]; simp
  have hns1 : (ns[qa s.log p]?).join = none := by rw [hns]; rfl
  have HNS := Lib.hid hns
  have HV := Lib.hid hv
  clear hns hv
  go_wp2
  go_loopg [] (qa s.log p + 1 - ns.length) (fun k wr => LayInv w3 c v ns (liveOf ns) (qa s.log p) k wr)
  case atStart => exact ⟨v, 0, hC, by simpa using hV, by omega, by omega, Chg.refl _ _, fun g hg => .inl hg⟩
  case round =>
    obtain ⟨v', j, hC', hV', hk, hj, hch, hown⟩ := hrel
    obtain ⟨a', cap', rfl, _⟩ := ownsRow_slice hV'
    have hc0 : wr.cell? ⟨c, 0, none⟩ = some (.slice a' (ns.length + j) cap') := blk_cell hC' 0 rfl
    by_cases hlt : ns.length + j ≤ qa s.log p
    · obtain ⟨i0, hi0, hz0, hs0, hb0⟩ := infoOf i_node
      have hz33 : (nodeOf zeroHash false).size = 33 := nodeOf_size zeroHash_size false
      have hcl : c < wr.heap.size := blk_lt hC'
      have hne : ¬ (some c = (Value.slice a' (ns.length + j) cap').ownBlock) := by
        intro e
        rcases hown c e.symm with e1 | e1
        · exact (hvb c e1).2.1 rfl
        · have := blk_lt hC; omega
      have hbase : 0 ≤ (wr.alloc (.cells (nodeOf zeroHash false) 209)).heap.size := Nat.zero_le _
      have hnew : ∀ j u, (nodeOf zeroHash false).toList[j]? = some u → (wr.alloc (.cells (nodeOf zeroHash false) 209)).cell? ((⟨wr.heap.size, 0, none⟩ : Addr).add j) = some u := by
        intro j u hu
        rw [Addr.add_mid, Nat.zero_add, cell_of_row _ _ _ _ _ _ (blk_new wr _)]
        simpa using hu
      have hone0 : ∀ u ∈ (nodeOf zeroHash false).toList, u.oneCell' = true := fun u hu => (Array.all_eq_true_iff_forall_mem.1 (nodeOf_one zeroHash_one false)) u (by simpa using hu)
      go_wp2_with (at_builtin; refine wpList_append_own_at _ rfl _ _ 216 rfl 0 209 i0 (.agg (nodeOf zeroHash false)) 33 33 u_nodes hi0 hz0 hs0 hb0 hz33 (by decide) _ _ _ rfl (hV'.alloc _) ⟨wr.heap.size, 0, none⟩ 1 1 (nodeOf zeroHash false).toList rfl ?c1 hnew hone0 ?c4 ?c5 hbase ?_; rotate_left 3; intro v2 w6 hown2 hgr2 _ hat2; obtain ⟨a2, cap2, rfl, hcp2⟩ := ownsRow_slice hown2; have hC6 := (hgr2.block c (by simp; omega) hne).trans (blk_alloc hC' _); have hc6 : w6.cell? ⟨c, 0, none⟩ = some (.slice a' (ns.length + j) cap') := blk_cell hC6 0 rfl; have hf6 := blk_frozen hC6 0)
      case c1 => simpa using hz33
      case c4 => unfold maxLen; omega
      case c5 => omega
      go_roundg (qa s.log p + 1 - (ns.length + (j + 1)))
      case measure => omega
      case rel => exact LayInv.step hC6 hown2 hgr2 hat2 hlt hj hch hown (fun e => hne e.symm) (blk_lt hC) hcl
    · obtain rfl : j = qa s.log p + 1 - ns.length := by omega
      have hbF : b ∉ c :: v.ownBlock.toList := by
        simp only [List.mem_cons, Option.mem_toList, not_or]
        exact ⟨fun e => hcb e.symm, fun e => (hvb b e).1 rfl⟩
      have hxF : w.heap.size ∉ c :: v.ownBlock.toList := by
        simp only [List.mem_cons, Option.mem_toList, not_or]
        exact ⟨fun e => hcx e.symm, fun e => by have := (hvb _ e).2.2; omega⟩
      obtain ⟨hl5, hr5 | ⟨g, cap5, cur5, hv5, _, hg5, hn5, hm5, hs5, ht5⟩⟩ := hV'
      · exfalso; omega
      · simp only [Value.slice.injEq] at hv5
        obtain ⟨rfl, _, rfl⟩ := hv5
        have hgc : ¬ c = g := by
          intro e
          rcases hown g rfl with e1 | e1
          · exact (hvb g e1).2.1 e.symm
          · have := blk_lt hC; omega
        have hgb : ¬ b = g := by
          intro e
          rcases hown g rfl with e1 | e1
          · exact (hvb g e1).1 e.symm
          · have := blk_lt hB3; omega
        have hgx : ¬ w.heap.size = g := by
          intro e
          rcases hown g rfl with e1 | e1
          · have := (hvb g e1).2.2; omega
          · omega
        have hbx : rng? wr w.heap.size 0 32 = some h := rng?_chg hch hbx3 (by omega) hxF
        have hmay : may wr g (qa s.log p * 33) 33 = true := may_row _ _ hg5 (by rw [hs5]; omega)
        have hbr := hch.at hB3 hbF
        have hc1 : wr.cell? ⟨c, 1, none⟩ = some (.int .i64 (liveOf ns)) := blk_cell hC' 1 rfl
        have hcf := blk_frozen hC' 1
        have hb2 : wr.cell? ⟨b, 2, none⟩ = some (.int .u64 s.alive) := blk_cell hbr 2 rfl
        have hbf := blk_frozen hbr 2
        have hcb' : ¬ b = c := fun e => hcb e.symm
        clear hk
        go_wp2
        go_region
        go_wp2
        go_end0
        refine ⟨rfl, ?_⟩
        have hqn : (ns ++ List.replicate (qa s.log p + 1 - ns.length) none).length = ns.length + (qa s.log p + 1 - ns.length) := by simp
        have hX' : CkIs (((setRng wr g (qa s.log p * 33) (nodeOf h true)).setCell ⟨c, 1, none⟩ (.int .i64 (wrap64 (↑(liveOf ns) + 1)))).setCell ⟨b, 2, none⟩ (.int .u64 (↑s.alive + 1))).drew ⟨qk s.log p, c, g, cap', layNs ns (qa s.log p) h⟩ :=
          lay_ck hC' hg5 hn5 hm5 hs5 ht5 hIh hh hlen hns1 hgc hcb' hgb
        have hns := HNS.out
        have hv := HV.out
        subst hns
        subst hv
        have hge : w.heap.size ≤ g := by
          rcases hown g rfl with e | e
          · simp [Value.ownBlock] at e
          · omega
        have hpm := hltf s.pm (by simp [SS.foot])
        have hmem : ∀ y ∈ s.cks, y.c < w.heap.size ∧ y.nb < w.heap.size := by
          intro y hy
          refine ⟨hltf _ ?_, hltf _ ?_⟩ <;> simp only [SS.foot, List.mem_cons, List.mem_flatMap, List.not_mem_nil, or_false]
          · exact .inr (.inr (.inr ⟨y, hy, .inl rfl⟩))
          · exact .inr (.inr (.inr ⟨y, hy, .inr rfl⟩))
        have hne : ∀ y ∈ s.cks, y.k ≠ qk s.log p := by
          have := HLK.out
          unfold SS.look at this
          rw [List.find?_eq_none] at this
          intro y hy e
          exact this y hy (by simpa using e)
        have hch2 : Chg [c] w3 wr := hch.mono (by intro k hk _; simpa [Value.ownBlock] using hk)
        have hW3w : Chg [b, c] w3 (((setRng wr g (qa s.log p * 33) (nodeOf h true)).setCell ⟨c, 1, none⟩ (.int .i64 (wrap64 (↑(liveOf ([] : List (Option (Array Value)))) + 1)))).setCell ⟨b, 2, none⟩ (.int .u64 (↑s.alive + 1))).drew := by
          refine ((((hch2.mono (G := [b, c]) (by intro k hk _; simp at hk; simp [hk])).setRng ?_ _ _).setCell (by simp) _).setCell (by simp) _).drew
          rcases hown g rfl with e | e
          · simp [Value.ownBlock] at e
          · right; exact e
        have hW := hc3.trans (F := [s.cm]) hW3w (G := [b, c])
        have hW : Chg [b, s.cm] w (((setRng wr g (qa s.log p * 33) (nodeOf h true)).setCell ⟨c, 1, none⟩ (.int .i64 (wrap64 (↑(liveOf ([] : List (Option (Array Value)))) + 1)))).setCell ⟨b, 2, none⟩ (.int .u64 (↑s.alive + 1))).drew :=
          (hc3.mono (G := [b, s.cm]) (by intro k hk _; simp at hk; simp [hk])).trans hW3w (by
            intro k hk
            simp at hk
            rcases hk with rfl | rfl
            · left; simp
            · right; omega)
        refine lay_close (X := none) (l1 := s.cks) (l2 := []) (F := [b, s.cm]) hst hp hpn hns1 ha (by simp) (fun _ => rfl) (by simp) (by simpa using hne) hW ?_ ?_ ?_ ?_ ?_ hX' hgc ?_ ?_
        · intro k hk
          simp at hk
          left
          rcases hk with rfl | rfl <;> simp [SS.foot]
        · intro y hy
          have h2 := hap.each y (by simpa using hy)
          simp only [List.mem_cons, List.not_mem_nil, or_false, not_or]
          exact ⟨⟨h2.2.1, h2.2.2.1⟩, h2.2.2.2.2.1, h2.2.2.2.2.2.1⟩
        · simp only [List.mem_cons, List.not_mem_nil, or_false, not_or]
          exact ⟨hap.head.2.1.symm, hap.head.2.2.symm⟩
        · have h1 : (setRng wr g (qa s.log p * 33) (nodeOf h true)).heap[b]? = some (.cells #[.int .i64 s.log, .int .u64 s.n, .int .u64 s.alive, .map (some s.cm), .map (some s.pm)] 150 (0, 0)) :=
            (setRng_chg wr g _ _).at hbr (by simpa using hgb)
          have h2 := blk_set (blk_far h1 (a := ⟨c, 1, none⟩) hcb' (.int .i64 (wrap64 (↑(liveOf ([] : List (Option (Array Value)))) + 1)))) 2 (.int .u64 (↑s.alive + 1))
          exact (blk_drew h2).trans rfl
        · have h1 := hmap.chg hW3w (by simp only [List.mem_cons, List.not_mem_nil, or_false, not_or]; exact ⟨hap.head.1.symm, by omega⟩)
          have e : mput (s.cks.map fun x => (x.k, Value.pointer (some ⟨x.c, 0, none⟩))) (qk s.log p) (.pointer (some ⟨c, 0, none⟩)) = ((s.cks ++ (⟨qk s.log p, c, g, cap', layNs [] (qa s.log p) h⟩ : Ck) :: []).map fun x => (x.k, Value.pointer (some ⟨x.c, 0, none⟩))) := by
            unfold mput
            have h0 : mget (s.cks.map fun x => (x.k, Value.pointer (some ⟨x.c, 0, none⟩))) (qk s.log p) = none := by
              rw [mget_none_iff]
              intro y hy
              obtain ⟨z, hz, rfl⟩ := List.mem_map.1 hy
              exact hne z hz
            rw [h0]
            simp
          rw [e] at h1
          exact h1
        · refine ⟨⟨hcb, by omega⟩, ⟨by omega, by omega⟩, ⟨by omega, by omega⟩, ?_⟩
          intro y hy
          have h2 := hmem y (by simpa using hy)
          exact ⟨⟨by omega, by omega⟩, by omega, by omega⟩
        · exact ⟨.inr (by omega), .inr hge⟩

theorem lay_calls (b p : Nat) (s : SS) (h : Array Value) (w : World) (hst : StIs w b s) (hp : p < 18446744073709551616) (hh : IsHash h) (hpn : p < s.n) (hno : s.node p = none) (ha : s.alive < 1099511627776) :
    Calls Tryz.prog 172 #[.pointer (some ⟨b, 0, none⟩), .int .u64 p, .agg h] w (LayPost w b s p h) := by
  cases hlk : s.look p with
  | none => exact lay_none b p s h w hst hp hh hpn ha hlk
  | some x => exact lay_some b p s h w hst hp hh hpn hno ha x hlk
end Go.Proofs.YtpklkefnmoaaaaaGreatDoor

/- The store: Push. -/
namespace Go.Proofs.YtpklkefnmoaaaaaGreatDoor
open Go.RowKit
set_option linter.unusedVariables false
set_option linter.unusedSimpArgs false

/-- What a call leaves that lays a node at p, or kills it. -/
def PutP (w : World) (b : Nat) (s : SS) (p : Nat) (o : Option (Array Value)) (al : Nat) (v : Value) (e : Ending) (w' : World) : Prop :=
  e = .returned v ∧ ∃ s', StIs w' b s' ∧ PutRel s s' p o al ∧ Mv (s.foot b) (s'.foot b) w w'

theorem StIs.bump {w : World} {b : Nat} {s : SS} (hst : StIs w b s) (n : Nat) (h1 : s.n ≤ n) (h2 : n < 18446744073709551616) : StIs (w.setCell ⟨b, 1, none⟩ (.int .u64 n)) b { s with n := n } := by
  obtain ⟨hb, hm, hp, hc, ha, ho⟩ := hst
  have hch : Chg [b] w (w.setCell ⟨b, 1, none⟩ (.int .u64 n)) := (Chg.refl _ _).setCell (by simp) _
  refine ⟨blk_set hb 1 _, hm.chg hch (by simpa using ha.head.1.symm), hp.chg hch (by simpa using ha.head.2.1.symm), ?_, ⟨ha.head, ha.each, ha.two⟩, ⟨ho.log, h2, ho.key, ho.pin, ?_, ho.al⟩⟩
  · intro x hx
    have := ha.each x hx
    exact (hc x hx).chg hch (by simpa using this.2.1) (by simpa using this.2.2.2.2.1)
  · intro p hp
    have := ho.top p hp
    show p < n
    omega

def PushP (w : World) (b : Nat) (s : SS) (h : Array Value) (e : Ending) (w' : World) : Prop :=
  e = .returned (.int .u64 s.n) ∧ ∃ s', StIs w' b s' ∧ PutRel { s with n := s.n + 1 } s' s.n (some h) (s.alive + 1) ∧ Mv (s.foot b) (s'.foot b) w w'

set_option maxRecDepth 100000 in
theorem push_calls (b : Nat) (s : SS) (h : Array Value) (w : World) (hst : StIs w b s) (hh : IsHash h) (hn : s.n < 18446744073709551615) (ha : s.alive < 1099511627776) :
    Calls Tryz.prog 103 #[.pointer (some ⟨b, 0, none⟩), .agg h] w (PushP w b s h) := by
  have hb := hst.blt
  have hc1 := hst.cell1
  have hf1 := blk_frozen hst.1 1
  have hsz := hh.1
  have hone := hh.one
  have hno : s.node s.n = none := by
    cases h0 : s.node s.n with
    | none => rfl
    | some q => have := hst.2.2.2.2.2.top s.n (by rw [h0]; rfl); omega
  have hlay : ∀ w1, StIs w1 b { s with n := s.n + 1 } → Calls Tryz.prog 172 #[.pointer (some ⟨b, 0, none⟩), .int .u64 s.n, .agg h] w1 (LayPost w1 b { s with n := s.n + 1 } s.n h) :=
    fun w1 h1 => lay_calls b s.n { s with n := s.n + 1 } h w1 h1 (by omega) hh (by show s.n < s.n + 1; omega) hno ha
  have HS := Lib.hid hst
  clear hst
  go_enter Tryz.func103, Tryz.ntmps103
  go_wp2_with (go_at_call 172; refine (hlay _ ?q1).mono ?_; rotate_left 1; rintro e w1 ⟨rfl, s', h1, h2, h3⟩)
  case q1 =>
    have h0 := (HS.out.bump (s.n + 1) (by omega) (by omega)).chg0 ((Chg.refl [] _).alloc (.cells h 36))
    simpa using h0
  go_ret
  refine ⟨rfl, s', h1, h2, ?_, ?_⟩
  · exact ((((Chg.refl (s.foot b) w).setCell (p := ⟨b, 1, none⟩) (by left; simp [SS.foot]) _)).alloc _).trans h3.1 (by intro k hk; left; exact hk)
  · intro k hk
    rcases h3.2 k hk with q | q
    · left; exact q
    · right; simp at q; omega

end Go.Proofs.YtpklkefnmoaaaaaGreatDoor

/- The store: what lay leaves, without its code. -/
import Derived.Test.YtnodjlgihhinpaaDoorStC
namespace Go.Proofs.YtnodjlgihhinpaaDoor
open Go.RowKit
set_option linter.unusedVariables false
set_option linter.unusedSimpArgs false

structure PutRel (s s' : SS) (p : Nat) (o : Option (Array Value)) (al : Nat) : Prop where
  log : s'.log = s.log
  n : s'.n = s.n
  pins : s'.pins = s.pins
  alive : s'.alive = al
  node : ∀ q, s'.node q = if q = p then o else s.node q
def LayRel (s s' : SS) (p : Nat) (h : Array Value) : Prop := PutRel s s' p (some h) (s.alive + 1)

def LayPost (w : World) (b : Nat) (s : SS) (p : Nat) (h : Array Value) (e : Ending) (w' : World) : Prop :=
  e = .returned (.tuple #[]) ∧ ∃ s', StIs w' b s' ∧ LayRel s s' p h ∧ Mv (s.foot b) (s'.foot b) w w'

theorem qkqa {log p q : Nat} (h1 : qk log p = qk log q) (h2 : qa log p = qa log q) : p = q := by
  unfold qk qa at *
  rw [← Nat.div_add_mod p (2 ^ log), ← Nat.div_add_mod q (2 ^ log), h1, h2]

theorem find_split {α : Type} {P : α → Bool} : ∀ {l : List α} {x : α}, l.find? P = some x → ∃ l1 l2, l = l1 ++ x :: l2 ∧ ∀ y ∈ l1, P y = false := by
  intro l
  induction l with
  | nil => intro x h; simp at h
  | cons y l ih =>
    intro x h
    by_cases hy : P y = true
    · rw [List.find?_cons_of_pos hy] at h
      simp at h
      exact ⟨[], l, by simp [h], by simp⟩
    · rw [List.find?_cons_of_neg (by simpa using hy)] at h
      obtain ⟨l1, l2, rfl, h2⟩ := ih h
      refine ⟨y :: l1, l2, rfl, ?_⟩
      intro z hz
      rcases List.mem_cons.1 hz with rfl | hz
      · simpa using hy
      · exact h2 z hz

def Off (c g : Nat) (k : Nat) : Prop := c ≠ k ∧ g ≠ k

theorem put_close {w w' : World} {b p c g cap al : Nat} {s : SS} {o : Option (Array Value)} {l1 l2 : List Ck} {X : Option Ck} {ns ns' : List (Option (Array Value))} {F : List Nat}
    (hst : StIs w b s) (hp : p < 18446744073709551616) (hpn : p < s.n) (hlen' : ns'.length ≤ 2 ^ s.log) (hlive' : 0 < liveOf ns') (hget : ∀ i, (ns'[i]?).join = if i = qa s.log p then o else (ns[i]?).join)
    (hal : (((l1 ++ (⟨qk s.log p, c, g, cap, ns'⟩ : Ck) :: l2)).map fun x => liveOf x.ns).sum = al) (hal2 : al ≤ 1099511627776)
    (hX : ∀ x, X = some x → x.k = qk s.log p ∧ x.ns = ns) (hX0 : X = none → ns = []) (hs : s.cks = l1 ++ X.toList ++ l2) (hk : ∀ y ∈ l1 ++ l2, y.k ≠ qk s.log p)
    (hch : Chg F w w') (hF : ∀ k ∈ F, k ∈ s.foot b ∨ w.heap.size ≤ k) (hF1 : ∀ y ∈ l1 ++ l2, y.c ∉ F ∧ y.nb ∉ F) (hF2 : s.pm ∉ F)
    (hb : w'.heap[b]? = some (.cells #[.int .i64 s.log, .int .u64 s.n, .int .u64 al, .map (some s.cm), .map (some s.pm)] 101 (0, 0)))
    (hm : MapIs encK w' s.cm ((l1 ++ ⟨qk s.log p, c, g, cap, ns'⟩ :: l2).map fun x => (x.k, .pointer (some ⟨x.c, 0, none⟩))))
    (hx : CkIs w' ⟨qk s.log p, c, g, cap, ns'⟩)
    (hcg : c ≠ g) (hoff : Off c g b ∧ Off c g s.cm ∧ Off c g s.pm ∧ ∀ y ∈ l1 ++ l2, Off c g y.c ∧ Off c g y.nb)
    (hcF : (c ∈ s.foot b ∨ w.heap.size ≤ c) ∧ (g ∈ s.foot b ∨ w.heap.size ≤ g)) :
    ∃ s', StIs w' b s' ∧ PutRel s s' p o al ∧ Mv (s.foot b) (s'.foot b) w w' := by
  obtain ⟨hb0, hm0, hpm, hck, hap, hok⟩ := hst
  have hin : ∀ y ∈ l1 ++ l2, y ∈ s.cks := by
    intro y hy
    rw [hs]
    rcases List.mem_append.1 hy with q | q <;> simp [q]
  have hnode : ∀ q, ({ s with cks := l1 ++ ⟨qk s.log p, c, g, cap, ns'⟩ :: l2 } : SS).node q = if q = p then o else s.node q := by
    intro q
    have hf1 : ∀ (l : List Ck), (∀ y ∈ l, y.k ≠ qk s.log p) → qk s.log q = qk s.log p → l.find? (fun x => decide (x.k = qk s.log q)) = none := by
      intro l hl e
      rw [List.find?_eq_none]
      intro y hy
      simp only [decide_eq_true_eq]
      rw [e]
      exact hl y hy
    have hl1 := hf1 l1 (fun y hy => hk y (by simp [hy]))
    have hl2 := hf1 l2 (fun y hy => hk y (by simp [hy]))
    unfold SS.node SS.look
    simp only [hs, List.find?_append, List.find?_cons]
    by_cases e : qk s.log q = qk s.log p
    · rw [hl1 e]
      simp only [e, decide_true, Option.none_or, Option.bind_some]
      rw [hget]
      have hql2 := hl2 e
      rw [e] at hql2
      by_cases ea : qa s.log q = qa s.log p
      · rw [if_pos ea, if_pos (qkqa e ea)]
      · rw [if_neg ea, if_neg (fun q' => ea (by rw [q']))]
        cases hXe : X with
        | none =>
          rw [hX0 hXe]
          simp [hql2]
        | some x =>
          simp [(hX x hXe).1, (hX x hXe).2]
    · rw [if_neg (fun q' => e (by rw [q']))]
      have e' : ¬ qk s.log p = qk s.log q := fun q' => e q'.symm
      simp only [e', decide_false]
      cases hXe : X with
      | none => simp
      | some x =>
        have : ¬ x.k = qk s.log q := by rw [(hX x hXe).1]; exact e'
        simp [this]
  refine ⟨{ s with cks := l1 ++ ⟨qk s.log p, c, g, cap, ns'⟩ :: l2 }, ?_, ?_, ?_⟩
  · refine ⟨?_, hm, hpm.chg hch hF2, ?_, ?_, ?_⟩
    · rw [hb]
      unfold SS.alive
      simp only [hal]
    · intro y hy
      simp only [List.mem_append, List.mem_cons] at hy
      rcases hy with hy | rfl | hy
      · have := hF1 y (by simp [hy]); exact (hck y (hin y (by simp [hy]))).chg hch this.1 this.2
      · exact hx
      · have := hF1 y (by simp [hy]); exact (hck y (hin y (by simp [hy]))).chg hch this.1 this.2
    · refine ⟨hap.head, ?_, ?_⟩
      · intro y hy
        simp only [List.mem_append, List.mem_cons] at hy
        rcases hy with hy | rfl | hy
        · exact hap.each y (hin y (by simp [hy]))
        · exact ⟨hcg, hoff.1.1, hoff.2.1.1, hoff.2.2.1.1, hoff.1.2, hoff.2.1.2, hoff.2.2.1.2⟩
        · exact hap.each y (hin y (by simp [hy]))
      · have h2 := hap.two
        rw [hs] at h2
        have h2 : (l1 ++ l2).Pairwise fun x y => x.c ≠ y.c ∧ x.c ≠ y.nb ∧ x.nb ≠ y.c ∧ x.nb ≠ y.nb := by
          refine h2.sublist ?_
          rw [List.append_assoc]
          exact List.Sublist.append (List.Sublist.refl _) (List.sublist_append_right _ _)
        rw [List.pairwise_append] at h2 ⊢
        obtain ⟨p1, p2, p3⟩ := h2
        refine ⟨p1, List.pairwise_cons.2 ⟨?_, p2⟩, ?_⟩
        · intro y hy
          have := hoff.2.2.2 y (by simp [hy])
          exact ⟨this.1.1, this.2.1, this.1.2, this.2.2⟩
        · intro x hx y hy
          rcases List.mem_cons.1 hy with rfl | hy
          · have := hoff.2.2.2 x (by simp [hx])
            exact ⟨this.1.1.symm, this.1.2.symm, this.2.1.symm, this.2.2.symm⟩
          · exact p3 x hx y hy
    · refine ⟨hok.log, hok.n, ?_, hok.pin, ?_, by unfold SS.alive; simp only [hal]; exact hal2⟩
      rotate_left
      · intro q hq
        rw [hnode q] at hq
        by_cases e : q = p
        · rw [e]; exact hpn
        · rw [if_neg e] at hq; exact hok.top q hq
      intro y hy
      simp only [List.mem_append, List.mem_cons] at hy
      rcases hy with hy | rfl | hy
      · exact hok.key y (hin y (by simp [hy]))
      · refine ⟨hlen', hlive', ?_⟩
        · simp only [qk]
          exact Nat.lt_of_le_of_lt (Nat.div_mul_le_self _ _) hp
      · exact hok.key y (hin y (by simp [hy]))
  · exact ⟨rfl, rfl, rfl, hal, hnode⟩
  · refine ⟨hch.mono ?_, ?_⟩
    · intro k hk hlt
      rcases hF k hk with q | q
      · exact q
      · omega
    · intro k hk
      simp only [SS.foot, List.mem_cons, List.mem_flatMap, List.mem_append, List.not_mem_nil, or_false] at hk
      rcases hk with rfl | rfl | rfl | ⟨y, hy, hky⟩
      · left; simp [SS.foot]
      · left; simp [SS.foot]
      · left; simp [SS.foot]
      · have hold : y ∈ l1 ++ l2 → k ∈ s.foot b := by
          intro hy
          simp only [SS.foot, List.mem_cons, List.mem_flatMap, List.not_mem_nil, or_false]
          exact .inr (.inr (.inr ⟨y, hin y hy, hky⟩))
        rcases hy with hy | rfl | hy
        · left; exact hold (by simp [hy])
        · rcases hky with rfl | rfl
          · exact hcF.1
          · exact hcF.2
        · left; exact hold (by simp [hy])

theorem lay_close {w w' : World} {b p c g cap : Nat} {s : SS} {h : Array Value} {l1 l2 : List Ck} {X : Option Ck} {ns : List (Option (Array Value))} {F : List Nat}
    (hst : StIs w b s) (hp : p < 18446744073709551616) (hpn : p < s.n) (hno : (ns[qa s.log p]?).join = none) (hal2 : s.alive < 1099511627776)
    (hX : ∀ x, X = some x → x.k = qk s.log p ∧ x.ns = ns) (hX0 : X = none → ns = []) (hs : s.cks = l1 ++ X.toList ++ l2) (hk : ∀ y ∈ l1 ++ l2, y.k ≠ qk s.log p)
    (hch : Chg F w w') (hF : ∀ k ∈ F, k ∈ s.foot b ∨ w.heap.size ≤ k) (hF1 : ∀ y ∈ l1 ++ l2, y.c ∉ F ∧ y.nb ∉ F) (hF2 : s.pm ∉ F)
    (hb : w'.heap[b]? = some (.cells #[.int .i64 s.log, .int .u64 s.n, .int .u64 (s.alive + 1 : Nat), .map (some s.cm), .map (some s.pm)] 101 (0, 0)))
    (hm : MapIs encK w' s.cm ((l1 ++ ⟨qk s.log p, c, g, cap, layNs ns (qa s.log p) h⟩ :: l2).map fun x => (x.k, .pointer (some ⟨x.c, 0, none⟩))))
    (hx : CkIs w' ⟨qk s.log p, c, g, cap, layNs ns (qa s.log p) h⟩)
    (hcg : c ≠ g) (hoff : Off c g b ∧ Off c g s.cm ∧ Off c g s.pm ∧ ∀ y ∈ l1 ++ l2, Off c g y.c ∧ Off c g y.nb)
    (hcF : (c ∈ s.foot b ∨ w.heap.size ≤ c) ∧ (g ∈ s.foot b ∨ w.heap.size ≤ g)) :
    ∃ s', StIs w' b s' ∧ LayRel s s' p h ∧ Mv (s.foot b) (s'.foot b) w w' := by
  have hok := hst.2.2.2.2.2
  have hnsl : ns.length ≤ 2 ^ s.log := by
    cases hXe : X with
    | none => rw [hX0 hXe]; simp
    | some x =>
      have := (hok.key x (by rw [hs, hXe]; simp)).1
      rw [(hX x hXe).2] at this
      exact this
  have hqa : qa s.log p < 2 ^ s.log := Nat.mod_lt _ (Nat.two_pow_pos _)
  have hlive : liveOf (layNs ns (qa s.log p) h) = liveOf ns + 1 := layNs_live ns _ h hno
  have hal : (((l1 ++ (⟨qk s.log p, c, g, cap, layNs ns (qa s.log p) h⟩ : Ck) :: l2)).map fun x => liveOf x.ns).sum = s.alive + 1 := by
    unfold SS.alive
    rw [hs]
    cases hXe : X with
    | none =>
      have := hX0 hXe
      subst this
      have h0 : liveOf ([] : List (Option (Array Value))) = 0 := rfl
      simp [hlive, h0]; omega
    | some x =>
      have := (hX x hXe).2
      simp [hlive, this]; omega
  exact put_close hst hp hpn (by rw [layNs_length]; omega) (by omega) (fun i => layNs_get ns _ h i) hal hal2 hX hX0 hs hk hch hF hF1 hF2 hb hm hx hcg hoff hcF
end Go.Proofs.YtnodjlgihhinpaaDoor

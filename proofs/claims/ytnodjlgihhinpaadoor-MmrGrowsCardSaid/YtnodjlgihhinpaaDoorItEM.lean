/- Texts put into one by pack.py: ItD StillIn ItE. -/
import Derived.StillTailTactics
import Derived.OrdersIn
import Derived.TacticsIn
import Derived.KernelRfl
import Derived.Sort.QuietIn
import Derived.Sort.CutIn
import Derived.RegionIn
import Derived.Lib.EndianBits
import Derived.Test.YtnodjlgihhinpaaDoorStF
import Derived.Test.YtnodjlgihhinpaaDoorItM
import Derived.Test.YtnodjlgihhinpaaDoorStC
/- What a store's All tells: plain. -/
namespace Go.Proofs.YtnodjlgihhinpaaDoor
open Go.RowKit
set_option linter.unusedVariables false
set_option linter.unusedSimpArgs false

/-- The first n nodes of a chunk, those that live. -/
def ckUp (lg : Nat) (x : Ck) : Nat → List (Nat × Array Value)
  | 0 => []
  | n + 1 => ckUp lg x n ++ ((x.ns[n]?).join.map fun h => (x.k * 2 ^ lg + n, h)).toList
def SS.atKey (s : SS) (k : Nat) : Option Ck := s.cks.find? fun x => decide (x.k = k)
def SS.ofKey (s : SS) (k : Nat) : List (Nat × Array Value) := match s.atKey k with
  | some x => ckUp s.log x x.ns.length
  | none => []
/-- The nodes of the chunks of these keys. -/
def SS.allOf (s : SS) (ks : List Nat) : List (Nat × Array Value) := ks.flatMap s.ofKey
/-- The list of all that live: rising, just those. -/
structure AllIs (s : SS) (xs : List (Nat × Array Value)) : Prop where
  up : (xs.map (·.1)).Pairwise (· < ·)
  mem : ∀ p h, (p, h) ∈ xs ↔ s.node p = some h
  len : xs.length = s.alive
def AllPre (s : SS) (pre : List (Nat × Array Value)) : Prop := ∃ xs, AllIs s xs ∧ pre <+: xs

theorem ckUp_mem {lg : Nat} {x : Ck} {p : Nat} {h : Array Value} : ∀ {n : Nat}, (p, h) ∈ ckUp lg x n ↔ ∃ i, i < n ∧ p = x.k * 2 ^ lg + i ∧ (x.ns[i]?).join = some h := by
  intro n
  induction n with
  | zero => simp [ckUp]
  | succ n ih =>
    rw [ckUp, List.mem_append, ih]
    constructor
    · rintro (⟨i, hi, h1, h2⟩ | hm)
      · exact ⟨i, by omega, h1, h2⟩
      · cases hj : (x.ns[n]?).join with
        | none => rw [hj] at hm; simp at hm
        | some q =>
          rw [hj] at hm
          simp at hm
          exact ⟨n, by omega, hm.1, by rw [hj, hm.2]⟩
    · rintro ⟨i, hi, h1, h2⟩
      by_cases hin : i = n
      · subst hin
        right
        rw [h2, h1]
        simp
      · left
        exact ⟨i, by omega, h1, h2⟩
theorem ckUp_up (lg : Nat) (x : Ck) : ∀ (n : Nat), ((ckUp lg x n).map (·.1)).Pairwise (· < ·) := by
  intro n
  induction n with
  | zero => simp [ckUp]
  | succ n ih =>
    rw [ckUp, List.map_append, List.pairwise_append]
    refine ⟨ih, ?_, ?_⟩
    · cases (x.ns[n]?).join <;> simp
    · intro a ha b hb
      obtain ⟨⟨p, h⟩, hp, rfl⟩ := List.mem_map.1 ha
      obtain ⟨i, hi, h1, _⟩ := ckUp_mem.1 hp
      cases hj : (x.ns[n]?).join with
      | none => rw [hj] at hb; simp at hb
      | some q =>
        rw [hj] at hb
        simp at hb
        subst hb
        simp only
        omega
theorem atKey_mem {s : SS} {k : Nat} {x : Ck} (h : s.atKey k = some x) : x ∈ s.cks ∧ x.k = k := ⟨List.mem_of_find?_eq_some h, by simpa using List.find?_some h⟩
theorem ofKey_mem {s : SS} (hok : s.ok) {k p : Nat} {h : Array Value} (hm : (p, h) ∈ s.ofKey k) : qk s.log p = k ∧ s.node p = some h := by
  unfold SS.ofKey at hm
  cases hk : s.atKey k with
  | none => rw [hk] at hm; simp at hm
  | some x =>
    rw [hk] at hm
    obtain ⟨hx, hxk⟩ := atKey_mem hk
    obtain ⟨i, hi, rfl, hj⟩ := ckUp_mem.1 hm
    have hlen := (hok.key x hx).1
    have hpos : 0 < 2 ^ s.log := Nat.two_pow_pos _
    have e1 : qk s.log (x.k * 2 ^ s.log + i) = x.k := by
      unfold qk
      rw [Nat.mul_comm, Nat.mul_add_div hpos, Nat.div_eq_of_lt (by omega), Nat.add_zero]
    have e2 : qa s.log (x.k * 2 ^ s.log + i) = i := by
      unfold qa
      rw [Nat.mul_comm, Nat.mul_add_mod, Nat.mod_eq_of_lt (by omega)]
    refine ⟨e1.trans hxk, ?_⟩
    unfold SS.node SS.look
    rw [e1, hxk]
    unfold SS.atKey at hk
    rw [hk, Option.bind_some, ← hxk, e2, hj]
theorem ofKey_has {s : SS} {p : Nat} {h : Array Value} (hn : s.node p = some h) : (p, h) ∈ s.ofKey (qk s.log p) ∧ qk s.log p ∈ s.cks.map (·.k) := by
  unfold SS.node at hn
  rw [Option.bind_eq_some_iff] at hn
  obtain ⟨x, hx, hj⟩ := hn
  obtain ⟨hxm, hxk⟩ := look_mem hx
  refine ⟨?_, List.mem_map.2 ⟨x, hxm, hxk⟩⟩
  have hk : s.atKey (qk s.log p) = some x := hx
  unfold SS.ofKey
  rw [hk]
  simp only
  rw [ckUp_mem]
  have hlt : qa s.log p < x.ns.length := by
    by_cases hq : qa s.log p < x.ns.length
    · exact hq
    · rw [List.getElem?_eq_none (by omega)] at hj; cases hj
  refine ⟨qa s.log p, hlt, ?_, hj⟩
  rw [hxk]
  unfold qk qa
  exact (Nat.div_add_mod' p (2 ^ s.log)).symm
theorem ofKey_up (s : SS) (k : Nat) : ((s.ofKey k).map (·.1)).Pairwise (· < ·) := by
  unfold SS.ofKey
  cases s.atKey k with
  | none => simp
  | some x => exact ckUp_up _ _ _
theorem ckUp_len (lg : Nat) (x : Ck) : ∀ n, n ≤ x.ns.length → (ckUp lg x n).length = liveOf (x.ns.take n) := by
  intro n
  induction n with
  | zero => intro _; simp [ckUp, liveOf]
  | succ n ih =>
    intro h
    rw [ckUp, List.length_append, ih (by omega), List.take_succ_eq_append_getElem (by omega : n < x.ns.length)]
    unfold liveOf
    rw [List.countP_append, List.getElem?_eq_getElem (by omega)]
    cases x.ns[n] <;> simp
theorem find_nodup {α : Type} (f : α → Nat) : ∀ {l : List α} {x : α}, (l.map f).Nodup → x ∈ l → l.find? (fun y => decide (f y = f x)) = some x := by
  intro l
  induction l with
  | nil => intro x _ h; simp at h
  | cons y l ih =>
    intro x hn hx
    simp only [List.map_cons, List.nodup_cons] at hn
    rcases List.mem_cons.1 hx with e | e
    · subst e; simp
    · have hne : ¬ f y = f x := fun q => hn.1 (q ▸ List.mem_map.2 ⟨x, e, rfl⟩)
      rw [List.find?_cons_of_neg (by simp [hne])]
      exact ih hn.2 e
theorem allOf_len {s : SS} {ks : List Nat} (hp : ks.Perm (s.cks.map (·.k))) (hn : ks.Nodup) : (s.allOf ks).length = s.alive := by
  have hn2 : (s.cks.map (·.k)).Nodup := (hp.nodup_iff).1 hn
  unfold SS.allOf SS.alive
  rw [List.length_flatMap]
  have h1 : (ks.map fun k => (s.ofKey k).length).sum = ((s.cks.map (·.k)).map fun k => (s.ofKey k).length).sum := (hp.map _).sum_nat
  rw [h1, List.map_map]
  congr 1
  refine List.map_congr_left (fun x hx => ?_)
  have : s.atKey x.k = some x := find_nodup Ck.k hn2 hx
  simp only [Function.comp, SS.ofKey, this]
  rw [ckUp_len _ _ _ (Nat.le_refl _), List.take_length]
theorem allOf_is {s : SS} (hok : s.ok) {ks : List Nat} (hp : ks.Perm (s.cks.map (·.k))) (hs : ks.Pairwise (· < ·)) : AllIs s (s.allOf ks) := by
  have hpos : 0 < 2 ^ s.log := Nat.two_pow_pos _
  refine ⟨?_, ?_, ?_⟩
  · have : ∀ l : List Nat, l.Pairwise (· < ·) → ((s.allOf l).map (·.1)).Pairwise (· < ·) := by
      intro l
      induction l with
      | nil => intro _; simp [SS.allOf]
      | cons k l ih =>
        intro hl
        rw [List.pairwise_cons] at hl
        have e : s.allOf (k :: l) = s.ofKey k ++ s.allOf l := by simp [SS.allOf]
        rw [e, List.map_append, List.pairwise_append]
        refine ⟨ofKey_up s k, ih hl.2, ?_⟩
        intro a ha b hb
        obtain ⟨⟨p, h⟩, hp1, rfl⟩ := List.mem_map.1 ha
        obtain ⟨⟨q, g⟩, hq1, rfl⟩ := List.mem_map.1 hb
        obtain ⟨k2, hk2, hq2⟩ := List.mem_flatMap.1 hq1
        have h1 := (ofKey_mem hok hp1).1
        have h2 := (ofKey_mem hok hq2).1
        have h3 := hl.1 k2 hk2
        unfold qk at h1 h2
        simp only
        by_cases hlt : p < q
        · exact hlt
        · have := Nat.div_le_div_right (c := 2 ^ s.log) (show q ≤ p by omega)
          omega
    exact this ks hs
  · intro p h
    constructor
    · intro hm
      obtain ⟨k, _, hk⟩ := List.mem_flatMap.1 hm
      exact (ofKey_mem hok hk).2
    · intro hn
      obtain ⟨h1, h2⟩ := ofKey_has hn
      exact List.mem_flatMap.2 ⟨_, hp.mem_iff.2 h2, h1⟩
  · exact allOf_len hp (hs.imp (fun h => by omega))
theorem allOf_take {s : SS} (ks : List Nat) (i : Nat) : s.allOf (ks.take i) <+: s.allOf ks := by
  refine ⟨s.allOf (ks.drop i), ?_⟩
  unfold SS.allOf
  rw [← List.flatMap_append, List.take_append_drop]
theorem ckUp_pre (lg : Nat) (x : Ck) : ∀ (m n : Nat), n ≤ m → ckUp lg x n <+: ckUp lg x m := by
  intro m
  induction m with
  | zero => intro n h; have : n = 0 := by omega
            subst this; exact List.prefix_refl _
  | succ m ih =>
    intro n h
    by_cases hn : n = m + 1
    · subst hn; exact List.prefix_refl _
    · exact (ih n (by omega)).trans ⟨_, rfl⟩
theorem pre_app {α : Type} {a b c d : List α} (h : b <+: c) (hd : a ++ c <+: d) : a ++ b <+: d := by
  obtain ⟨t, rfl⟩ := h
  obtain ⟨u, rfl⟩ := hd
  exact ⟨t ++ u, by simp [List.append_assoc]⟩
theorem allOf_next {s : SS} {ks : List Nat} {i : Nat} (hi : i < ks.length) {x : Ck} (hx : s.atKey ks[i] = some x) : s.allOf (ks.take i) ++ ckUp s.log x x.ns.length = s.allOf (ks.take (i + 1)) := by
  have e : ks.take (i + 1) = ks.take i ++ [ks[i]] := List.take_succ_eq_append_getElem hi
  rw [e]
  unfold SS.allOf
  rw [List.flatMap_append]
  congr 1
  simp [SS.ofKey, hx]
theorem allPre_at {s : SS} (hok : s.ok) {ks : List Nat} (hp : ks.Perm (s.cks.map (·.k))) (hs : ks.Pairwise (· < ·)) {i : Nat} (hi : i < ks.length) {x : Ck} (hx : s.atKey ks[i] = some x) {j : Nat} (hj : j ≤ x.ns.length) :
    AllPre s (s.allOf (ks.take i) ++ ckUp s.log x j) := by
  refine ⟨_, allOf_is hok hp hs, pre_app (ckUp_pre s.log x _ j hj) ?_⟩
  have e := allOf_next hi hx
  rw [e]
  exact allOf_take ks _
theorem AllPre.len {s : SS} {pre : List (Nat × Array Value)} (h : AllPre s pre) : pre.length ≤ s.alive := by
  obtain ⟨xs, hx, hp⟩ := h
  rw [← hx.len]
  exact hp.length_le
theorem AllIs.uniq {s : SS} {xs ys : List (Nat × Array Value)} (hx : AllIs s xs) (hy : AllIs s ys) : xs = ys := by
  have key : ∀ (xs ys : List (Nat × Array Value)), (xs.map (·.1)).Pairwise (· < ·) → (ys.map (·.1)).Pairwise (· < ·) → (∀ q, q ∈ xs ↔ q ∈ ys) → xs = ys := by
    intro xs
    induction xs with
    | nil =>
      intro ys _ _ h
      cases ys with
      | nil => rfl
      | cons y ys => exact absurd ((h y).2 (by simp)) (by simp)
    | cons x xs ih =>
      intro ys h1 h2 h
      cases ys with
      | nil => exact absurd ((h x).1 (by simp)) (by simp)
      | cons y ys =>
        simp only [List.map_cons, List.pairwise_cons] at h1 h2
        have hxy : x = y := by
          rcases List.mem_cons.1 ((h x).1 (by simp)) with e | e
          · exact e
          · rcases List.mem_cons.1 ((h y).2 (by simp)) with e2 | e2
            · exact e2.symm
            · have a := h2.1 x.1 (List.mem_map.2 ⟨x, e, rfl⟩)
              have b := h1.1 y.1 (List.mem_map.2 ⟨y, e2, rfl⟩)
              omega
        subst hxy
        rw [ih ys h1.2 h2.2 (fun q => ?_)]
        constructor
        · intro hq
          rcases List.mem_cons.1 ((h q).1 (by simp [hq])) with e | e
          · subst e
            have := h1.1 q.1 (List.mem_map.2 ⟨q, hq, rfl⟩)
            omega
          · exact e
        · intro hq
          rcases List.mem_cons.1 ((h q).2 (by simp [hq])) with e | e
          · subst e
            have := h2.1 q.1 (List.mem_map.2 ⟨q, hq, rfl⟩)
            omega
          · exact e
  exact key xs ys hx.up hy.up (fun ⟨p, h⟩ => by rw [hx.mem, hy.mem])
end Go.Proofs.YtnodjlgihhinpaaDoor

/- A region that draws its order, reads first and ends in one call, at the fence that lets everything in. Nothing of a program. -/
namespace Go.Proofs.YtnodjlgihhinpaaDoor
set_option linter.unusedVariables false
set_option linter.unusedSimpArgs false
section
variable {P : Program} {ops : Array Oper} {md : Region.Mode} {w : World}
theorem wpIn_of_still {o : Oper} {a : Act} {K : Act → Prop} {K' : Act → World → Prop} {Q' : Exit → Act → World → Prop} (h : ∀ a, K a → K' a w) (hh : o.still P a w K) : o.wpIn Fence.wide 0 P a w K' Q' := by
  unfold Oper.still at hh
  unfold Oper.wpIn
  refine ⟨fun _ _ => trivial, ?_⟩
  have e : o.semAt Fence.wide.round a.eval = execOp a.eval o := rfl
  rw [e]
  generalize (execOp a.eval o).run P w = r at *
  cases r with
  | ok n w' =>
    cases n <;> simp only [Oper.stillUpon] at hh <;> simp only [Oper.uponIn]
    case enter f args =>
      obtain ⟨rfl, v, hc, hn⟩ := hh
      exact ⟨fun h => (by cases h), callsIn_wide.2 (hc.mono fun e w'' ⟨he, hw⟩ => by subst he; subst hw; exact h _ hn)⟩
    all_goals (obtain ⟨rfl, h2⟩ := hh; exact h _ h2)
  | halt x w' => simp only [Oper.stillUpon] at hh
theorem wpOpIn_of_stOp {i : Nat} {a : Act} {K : Act → Prop} {K' : Act → World → Prop} {Q' : Exit → Act → World → Prop} (h : ∀ a, K a → K' a w) (hh : stOp P ops w i K a) : wpOpIn Fence.wide 0 P ops Q' i K' a w := by
  unfold stOp at hh
  unfold wpOpIn
  split
  · rename_i ho; simp only [ho] at hh; exact h _ hh
  · rename_i o ho
    simp only [ho] at hh
    split
    · rename_i hw; simp only [hw, if_true] at hh; exact wpIn_of_still h hh
    · rename_i hw; simp only [hw] at hh; exact ⟨fun _ _ => trivial, h _ hh⟩
theorem wpAnyIn_of_head {n g : Nat} {L : Array Bool → Act → Prop} {Q' : Exit → Act → World → Prop} (hL : ∀ listed a, L listed a → wpAnyIn Fence.wide 0 P md ops Q' g listed a w) :
    ∀ (f : Nat) (listed : Array Bool) (a : Act), wpAnyL P md ops w n L f listed a → wpAnyIn Fence.wide 0 P md ops Q' (f + g) listed a w
  | 0, listed, a, h => by rw [Nat.zero_add]; exact hL _ _ h
  | f + 1, listed, a, h => by
    rw [show f + 1 + g = (f + g) + 1 by omega]
    exact ⟨fun h0 => absurd h0 h.1, fun i hi => wpOpIn_of_stOp (fun a' h' => wpAnyIn_of_head hL f _ a' h') (h.2 i hi).2⟩
theorem wpAnyIn_of_seq {Q' : Exit → Act → World → Prop} : ∀ (l : List Oper) (k : Nat) (listed : Array Bool) (a : Act) (w : World), (∀ j, l[j]? = ops[k + j]?) →
    Region.seqB md ops l.length k listed = true → wpListIn Fence.wide 0 P ops Q' l a w → wpAnyIn Fence.wide 0 P md ops Q' l.length listed a w
  | [], _, _, _, _, _, hB, h => ⟨by simpa [Region.seqB] using hB, h⟩
  | o :: l, k, listed, a, w, hl, hB, h => by
    have h0 : ops[k]? = some o := by simpa using (hl 0).symm
    simp only [List.length_cons, Region.seqB, Bool.and_eq_true, decide_eq_true_eq] at hB
    refine ⟨fun h1 => (by rw [hB.1] at h1; cases h1), fun i hi => ?_⟩
    rw [hB.1] at hi
    have hik : i = k := by simpa using hi
    subst hik
    have hw : wpOpIn Fence.wide 0 P ops Q' i (wpListIn Fence.wide 0 P ops Q' l) a w := by unfold wpOpIn; simp only [h0]; exact h
    exact wpOpIn_mono (fun a' w' h' => wpAnyIn_of_seq l (i + 1) _ a' w' (fun j => by have := hl (j + 1); simpa [Nat.add_assoc, Nat.add_comm 1 j] using this) hB.2 h') hw
theorem wpIn_region_still {id : Nat} {Q : Exit → Act → World → Prop} {a : Act} {w : World} {l : List Oper} (n : Nat) (hm : P.follows .mixedOrders = true) (hB : Region.lexTailB .any l.toArray n = true)
    (h : wpStill P l.toArray { w with drawn := w.drawn + 1 } (fun a' => wpListIn Fence.wide 0 P l.toArray Q (l.drop n) a' { w with drawn := w.drawn + 1 }) (l.take n) a) : (Code.region id l.toArray true).wpIn Fence.wide 0 P Q a w := by
  simp only [Region.lexTailB, Bool.and_eq_true, decide_eq_true_eq] at hB
  obtain ⟨⟨⟨⟨hsel, hn⟩, hs⟩, hc⟩, hlex⟩ := hB
  have hn' : n < l.length := by simpa using hn
  have htl : (l.take n).length = n := by simp; omega
  have hdl : (l.drop n).length = l.toArray.size - n := by simp
  have inv0 : HeadInv .any l.toArray n (Array.replicate l.toArray.size false) :=
    ⟨by simp, fun j oj _ hl => (by rw [getD_replicate_false] at hl; cases hl), fun t _ ht => getD_in (by simpa using ht) (getD_replicate_false _ _)⟩
  have H := wpAnyL_lex (md := .any) (g := l.toArray.size - n) hsel hs hc hn (l.take n) 0 _ a (fun j hj => by
    have hj' : j < n := by rw [htl] at hj; exact hj
    simp [hj']) (by simpa using htl) inv0 (by rw [htl]; exact hlex) h
  refine wpIn_region_any hm ?_
  have := wpAnyIn_of_head (Q' := Q) (g := l.toArray.size - n) (fun listed a' hL => by
    have := wpAnyIn_of_seq (md := .any) (Q' := Q) (l.drop n) n listed a' { w with drawn := w.drawn + 1 } (fun j => by simp [List.getElem?_drop]) (by rw [hdl]; exact hL.1) hL.2
    rwa [hdl] at this) _ _ _ H
  rw [htl, show n + (l.toArray.size - n) = l.toArray.size by omega] at this
  exact this
theorem still_of_quiet {Q : Act → Prop} : ∀ (l : List Oper) (a : Act), wpQuietIn Fence.wide 0 P ops (fun w' => w' = w) Q l a → wpStill P ops w Q l a
  | [], _, h => h
  | o :: l, a, h => by
    obtain ⟨_, h⟩ := h
    unfold wpStill
    split at h
    · rename_i hw
      rw [if_pos hw]
      obtain ⟨v, h1, h2⟩ := h
      have h1 := h1 w rfl
      unfold Oper.quietAtIn at h1
      unfold Oper.still
      generalize (execOp a.eval o).run P w = r at *
      cases r with
      | ok n w' =>
        cases n <;> simp only [Oper.quietUponIn] at h1 <;> simp only [Oper.stillUpon]
        case value u => exact ⟨h1.1, by rw [h1.2]; exact still_of_quiet l _ h2⟩
        case skip => exact ⟨h1.1, by rw [← h1.2]; exact still_of_quiet l _ h2⟩
        case enter f args => exact ⟨h1.1, v, callsIn_wide.1 h1.2.2, still_of_quiet l _ h2⟩
      | halt x w' => simp only [Oper.quietUponIn] at h1
    · rename_i hw
      rw [if_neg hw]
      exact still_of_quiet l _ h
/-- Reads first, walked by the quiet step; then what is left, in the text's order. -/
theorem wpIn_region_head {id : Nat} {Q : Exit → Act → World → Prop} {a : Act} {w : World} {l : List Oper} (n : Nat) (hm : P.follows .mixedOrders = true) (hB : Region.lexTailB .any l.toArray n = true)
    (h : wpQuietIn Fence.wide 0 P l.toArray (fun w' => w' = w.drew) (fun a' => wpListIn Fence.wide 0 P l.toArray Q (l.drop n) a' w.drew) (l.take n) a) : (Code.region id l.toArray true).wpIn Fence.wide 0 P Q a w :=
  wpIn_region_still n hm hB (still_of_quiet _ _ h)
end
end Go.Proofs.YtnodjlgihhinpaaDoor

/- The store's All: its iterator walked. -/
namespace Go.Proofs.YtnodjlgihhinpaaDoor
open Go.RowKit Go.Shelf
set_option linter.unusedVariables false
set_option linter.unusedSimpArgs false
attribute [local go_sem] Oper.semAt_some

theorem SS.ok.cksl {s : SS} (h : s.ok) : s.cks.length ≤ 1099511627776 := by
  have key : ∀ l : List Ck, (∀ x ∈ l, 0 < liveOf x.ns) → l.length ≤ (l.map fun x => liveOf x.ns).sum := by
    intro l
    induction l with
    | nil => intro _; simp
    | cons x l ih =>
      intro hl
      have h1 := ih (fun y hy => hl y (by simp [hy]))
      have h2 := hl x (by simp)
      rw [List.length_cons, List.map_cons, List.sum_cons]
      omega
  exact Nat.le_trans (key s.cks (fun x hx => (h.key x hx).2.1)) h.al
theorem StIs.lookk {w : World} {b : Nat} {s : SS} (h : StIs w b s) (k : Nat) : (Instr.lookup 97 (.map (some s.cm)) (.agg #[.int .u64 (k : Nat)]) false).run Tryd.prog w = .ok (.pointer (ckPtr (s.atKey k))) w := by
  have := h.2.1.look encK_law u_mapc z_pchunk k false
  rw [mget_map] at this
  unfold encK at this
  rw [this]
  unfold ckPtr SS.atKey
  cases s.cks.find? fun x => decide (x.k = k) <;> rfl
theorem KOwn.cell {w : World} {B : Nat} {a : Option Addr} {cap : Nat} {l : List Nat} (h : KOwn w B (.slice a l.length cap) l) {i : Nat} (hi : i < l.length) : ∃ g, a = some ⟨g, 0, none⟩ ∧ w.cell? ⟨g, i, none⟩ = some (.int .u64 (l[i] : Nat)) := by
  rcases h.2 with ⟨hv, h0⟩ | ⟨g, cap2, cur, hv, hb, hh, hnc, hm, hcs, ht⟩
  · omega
  · injection hv with ha
    refine ⟨g, ha, blk_cell hh i ?_⟩
    have e : (cur.toList.take (l.length * 1))[i]? = (l.map fun (n : Nat) => Value.int .u64 (n : Int))[i]? := by rw [ht]
    rw [List.getElem?_take_of_lt (by omega), Array.getElem?_toList] at e
    rw [e]
    simp [hi]
/-- The iterator's own facts between two rounds. -/
structure AllW (Bs b : Nat) (s : SS) (B : Nat) (v : Value) (ks : List Nat) (D : List Nat) (w : World) : Prop where
  st : StIs w b s
  bx : w.heap[Bs]? = some (.cells #[.pointer (some ⟨b, 0, none⟩)] 56 (0, 0))
  row : KOwn w B v ks
  d : ∀ k ∈ D, k < w.heap.size ∧ k ∉ Bs :: s.foot b ∧ k ∉ ob v
theorem AllW.chg {Bs b : Nat} {s : SS} {B : Nat} {v : Value} {ks : List Nat} {D : List Nat} {w w' : World} (h : AllW Bs b s B v ks D w) (hc : Chg [] w w') : AllW Bs b s B v ks D w' :=
  ⟨h.st.chg0 hc, hc.at h.bx (by simp), own_chg h.row hc (by simp), fun k hk => ⟨Nat.lt_of_lt_of_le (h.d k hk).1 hc.size, (h.d k hk).2⟩⟩
theorem AllW.step {Bs b : Nat} {s : SS} {B : Nat} {v : Value} {ks : List Nat} {D D' : List Nat} {w w' : World} (h : AllW Bs b s B v ks D w) (hc : Chg D w w') (hd : Dok D w D' w') : AllW Bs b s B v ks D' w' :=
  ⟨h.st.chg hc (fun k hk hD => (h.d k hD).2.1 (by simp [hk])), hc.at h.bx (fun hD => (h.d _ hD).2.1 (by simp)), own_chg h.row hc (fun k hk hD => (h.d k hD).2.2 hk),
    fun k hk => ⟨(hd k hk).1, (hd k hk).2.elim (fun q => (h.d k q).2) (fun q => ⟨fun hm => by
      rcases List.mem_cons.1 hm with e | e
      · have := blk_lt h.bx; omega
      · have := h.st.lt k e; omega, fun hm => by have := (own_lt h.row k hm).2; omega⟩)⟩⟩

theorem CkIs.rng {w : World} {x : Ck} (h : CkIs w x) {i : Nat} (hi : i < x.ns.length) : rng? w x.nb (i * 33) 33 = some (nodeCells (x.ns.getD i none)).toArray := by
  have hl : (nodeCells (x.ns.getD i none)).length = 33 := nodeCells_length (fun q hq => h.2.2.1 q (by
    rw [List.getD_eq_getElem?_getD, List.getElem?_eq_getElem hi, Option.getD_some] at hq
    rw [← hq]; exact List.getElem_mem hi))
  generalize hc : nodeCells (x.ns.getD i none) = c at hl ⊢
  refine rng?_mk (by simpa using hl) fun j hj => ?_
  exact h.cell hi (by simpa [hl] using hj) (by rw [hc]; simp at hj; simp [hj])
theorem shl_or (k at_ lg : Nat) (hl : lg ≤ 16) (hk : k * 2 ^ lg < 18446744073709551616) (ha : at_ < 2 ^ lg) : k * 2 ^ lg + at_ < 18446744073709551616 := by
  have e : 18446744073709551616 = 2 ^ (64 - lg) * 2 ^ lg := by rw [← Nat.pow_add, Nat.sub_add_cancel (by omega)]
  rw [e] at hk ⊢
  have h1 : k < 2 ^ (64 - lg) := Nat.lt_of_mul_lt_mul_right hk
  have h2 : (k + 1) * 2 ^ lg ≤ 2 ^ (64 - lg) * 2 ^ lg := Nat.mul_le_mul_right _ h1
  rw [Nat.add_mul, Nat.one_mul] at h2
  omega
theorem place_or (k m lg : Nat) (hl : lg ≤ 16) (hk : k * 2 ^ lg < 18446744073709551616) (ha : m < 2 ^ lg) : bits BinOp.or IntKind.u64 (IntKind.u64.wrap ((k : Int) * 2 ^ lg)) (m : Int) = ((k * 2 ^ lg + m : Nat) : Int) := by
  have h1 := shl_or k m lg hl hk ha
  have e0 : ((k : Int) * 2 ^ lg) = ((k * 2 ^ lg : Nat) : Int) := by simp
  have e1 : IntKind.u64.wrap ((k * 2 ^ lg : Nat) : Int) = ((k * 2 ^ lg : Nat) : Int) := by rw [IntKind.wrap_u64]; omega
  have e2 : ((2 : Int) ^ lg) = ((2 ^ lg : Nat) : Int) := by simp
  rw [e0, e1, bits_join .u64 64 (by decide) (fun n a b => by rw [IntKind.wrap_u64]; omega) lg _ _ (by omega) (by rw [e2]; simp only [Int.natCast_mul]; exact Int.mul_emod_left _ _) (by omega) (by omega) (by rw [e2]; omega) (by omega)]
  omega
theorem node_flag {h : Array Value} (hh : h.size = 32) (b : Bool) : (nodeOf h b)[32]? = some (.bool b) := by
  have h1 : (nodeOf h b)[32]? = (h.push (.bool b))[h.size]? := by rw [hh]; rfl
  rw [h1]; simp
set_option maxRecDepth 100000 in
set_option maxHeartbeats 4000000 in
theorem all_seq
    (Bs b : Nat) (s : SS) (w : World) (hbs : w.heap[Bs]? = some (.cells #[.pointer (some ⟨b, 0, none⟩)] 56 (0, 0))) (hst : StIs w b s) :
    Seq Tryd.prog 46 #[.pointer (some ⟨Bs, 0, none⟩)] (fun x => #[.int .u64 (x.1 : Nat), .agg x.2]) (AllIs s) (AllPre s) (Bs :: s.foot b) w := by
  intro l J Jx W D hcW hJ hJx hY h0 hD
  have hbW := hcW.at hbs (by simp)
  have hcb : W.cell? ⟨Bs, 0, none⟩ = some (.pointer (some ⟨b, 0, none⟩)) := blk_cell hbW 0 rfl
  have hstW := hst.chg0 hcW
  have hc3 := hstW.cell3
  have hS := sorted_calls W.heap.size s.cm _ (W.alloc (.cells #[.map (some s.cm)] 97)) (blk_new W _) (hstW.2.1.chg ((Chg.refl [] W).alloc _) (by simp)) (by rw [List.length_map]; exact hstW.2.2.2.2.2.cksl)
  clear hbs hst hcW
  refine callsIn_of_wp Tryd.func46 rfl trivial ?_ rfl
  simp only [Tryd.ntmps46, List.size_toArray, List.length_cons, List.length_nil, Nat.reduceAdd, Nat.reduceSub, Array.replicate_succ, Array.replicate_zero, List.push_toArray, List.append_toArray, List.nil_append, List.cons_append]
  gi_wp2_with (first
    | (refine ⟨trivial, rfl, ?_⟩; gi_at_call 48; refine (callsIn_wide.2 (keys_calls _ _)).mono ?_; rintro e w1 ⟨rfl, rfl⟩)
    | (refine ⟨trivial, rfl, ?_⟩; gi_at_call 47; refine (callsIn_wide.2 hS).mono ?_; rintro e w2 ⟨v, ks, rfl, hks, hup, hO, hc2⟩; obtain ⟨a, cap, rfl⟩ := hO.shape))
  have hcWW : Chg [] W w2 := ((Chg.refl _ _).alloc _).nil_trans hc2
  have hA0 : AllW Bs b s (W.heap.size + 1) (.slice a ks.length cap) ks D w2 := ⟨hstW.chg0 hcWW, hcWW.at hbW (by simp), by have := hO; rw [World.size_alloc] at this; exact this, fun k hk => ⟨Nat.lt_of_lt_of_le (hD k hk).1 hcWW.size, (hD k hk).2, fun hm => by have := (own_lt hO k hm).1; have := (hD k hk).1; simp at *; omega⟩⟩
  have hJ0 : J [] D w2 := hJ _ _ _ _ [] h0 hcWW (by simp)
  have hsz0 : W.heap.size ≤ w2.heap.size := hcWW.size
  have hks : ks.Perm (s.cks.map (·.k)) := by rw [List.map_map] at hks; exact hks
  clear hS hO hc2 hcWW hbW hcb hstW hc3 h0
  have hkl : ks.length ≤ 9223372036854775807 := by have := hks.length_eq; rw [List.length_map] at this; have := hA0.st.2.2.2.2.2.cksl; omega
  generalize hB : W.heap.size + 1 = B at *
  gi_loopw [5, 16] (fun _ i wr => ∃ (n : Nat) (D : List Nat), n ≤ ks.length ∧ i = .int .i64 n ∧ AllW Bs b s B (.slice a ks.length cap) ks D wr ∧ J (s.allOf (ks.take n)) D wr ∧ W.heap.size ≤ wr.heap.size)
    (fun _ i _ => ks.length - (intOf i).toNat)
  case atStart => exact ⟨0, D, Nat.zero_le _, rfl, hA0, hJ0, hsz0⟩
  case round =>
    obtain ⟨n, D1, hn, rfl, hA, hj, hsz⟩ := hrel
    obtain ⟨wo, rfl⟩ : ∃ wo : World, wo = wr := ⟨_, rfl⟩
    clear hA0 hJ0 hsz0 hD
    by_cases hlt : n < ks.length
    · obtain ⟨g, rfl, hcell⟩ := hA.row.cell hlt
      have hkm : ks[n] ∈ s.cks.map (·.k) := hks.mem_iff.1 (List.getElem_mem hlt)
      obtain ⟨x, hx⟩ : ∃ x, s.atKey ks[n] = some x := by
        obtain ⟨y, hy, hyk⟩ := List.mem_map.1 hkm
        cases hq : s.atKey ks[n] with
        | some x => exact ⟨x, rfl⟩
        | none =>
          unfold SS.atKey at hq
          rw [List.find?_eq_none] at hq
          exact absurd hyk (by simpa using hq y hy)
      obtain ⟨hxm, hxk⟩ := atKey_mem hx
      have HX := Lib.hid hx
      have HXK := Lib.hid hxk
      rw [← hxk] at hcell
      have hxl : Hid (s.atKey x.k = some x) := by rw [hxk]; exact hx
      have hwo := hA.row.1
      rw [← hxk] at hx
      clear hxk hkm
      gi_upto_region 4 with (fail)
      have hc3 : Chg [] wo (wo.alloc (.cells #[.int .u64 (x.k : Nat)] 93)) := (Chg.refl _ _).alloc _
      have hk3 := blk_new wo (.cells #[.int .u64 (x.k : Nat)] 93)
      have hz3 : (wo.alloc (.cells #[.int .u64 (x.k : Nat)] 93)).heap.size = wo.heap.size + 1 := by simp
      have hsym : ks[n] = x.k := HXK.out.symm
      generalize wo.alloc (.cells #[.int .u64 (x.k : Nat)] 93) = w3 at *
      have hA3 := hA.chg hc3
      have hj3 := hJ _ _ _ _ [] hj hc3 (by simp)
      have hD3 : ∀ k ∈ D1, k ≠ wo.heap.size := fun k hk => by have := (hA.d k hk).1; omega
      have q1 : w3.cell? ⟨Bs, 0, none⟩ = some (.pointer (some ⟨b, 0, none⟩)) := blk_cell hA3.bx 0 rfl
      have q2 : w3.cell? ⟨b, 3, none⟩ = some (.map (some s.cm)) := hA3.st.cell3
      have q3 : w3.cell? ⟨wo.heap.size, 0, none⟩ = some (.int .u64 (x.k : Nat)) := blk_cell hk3 0 rfl
      have q4 : w3.cell? ⟨x.c, 0, none⟩ = some (.slice (some ⟨x.nb, 0, none⟩) x.ns.length x.cap) := blk_cell (hA3.st.2.2.2.1 x hxm).1 0 rfl
      have q5 : ∀ n, (Instr.lookup 97 (.map (some s.cm)) (.agg #[.int .u64 (x.k : Nat)]) false).run Tryd.prog (w3.drewN n) = .ok (.pointer (some ⟨x.c, 0, none⟩)) (w3.drewN n) := fun n => by
        have := (hA3.st.chg0 ((Chg.refl [] w3).drewN n)).lookk x.k
        rw [hxl.out] at this
        exact this
      have hw3 : W.heap.size ≤ w3.heap.size := by omega
      clear hx hcell hA hj hc3 hwo hsym
      gi_quiet (fail)
      clear q1 q2 q3 q4 q5
      gi_wp2
      have hA4 := hA3.chg ((Chg.refl [] w3).drewN nq)
      have hj4 := hJ _ _ _ _ [] hj3 ((Chg.refl [] w3).drewN nq) (by simp)
      have hk4 : (w3.drewN nq).heap[wo.heap.size]? = some (.cells #[.int .u64 (x.k : Nat)] 93 (0, 0)) := hk3
      have hz4 : (w3.drewN nq).heap.size = wo.heap.size + 1 := hz3
      generalize w3.drewN nq = w4 at *
      clear hA3 hj3 hk3 hz3
      have hxcap := (hA4.st.2.2.2.1 x hxm).2.2.2
      have hxns : x.ns.length ≤ x.cap := by
        rcases (hA4.st.2.2.2.1 x hxm).2.1.2 with ⟨hv, _⟩ | ⟨_, _, _, hv, _, _, h2, _⟩
        · cases hv
        · injection hv with _ _ h3
          omega
      have hkb := (hA4.st.2.2.2.2.2.key x hxm)
      have hlog := hA4.st.2.2.2.2.2.log
      unfold maxLen at hxcap
      gi_loopw [6, 7, 30] (fun _ _ j wr => ∃ (m : Nat) (D : List Nat), m ≤ x.ns.length ∧ j = .int .i64 m ∧ AllW Bs b s B (.slice (some ⟨g, 0, none⟩) ks.length cap) ks D wr ∧ J (s.allOf (ks.take n) ++ ckUp s.log x m) D wr ∧
          wo.heap.size < wr.heap.size ∧ wr.heap[wo.heap.size]? = some (.cells #[.int .u64 (x.k : Nat)] 93 (0, 0)) ∧ ∀ k ∈ D, k ≠ wo.heap.size)
        (fun _ _ j _ => x.ns.length - (intOf j).toNat)
      case atStart => exact ⟨0, D1, Nat.zero_le _, rfl, hA4, by simpa [ckUp] using hj4, by omega, hk4, hD3⟩
      case round =>
        obtain ⟨m, D2, hm, rfl, hA, hj, hzr, hkr, hDr⟩ := hrel
        obtain ⟨wi, rfl⟩ : ∃ wi : World, wi = wr := ⟨_, rfl⟩
        clear hA4 hj4 hk4 hz4 hD3
        by_cases hlm : m < x.ns.length
        · have hck := hA.st.2.2.2.1 x hxm
          have hrg := hck.rng hlm
          have hnd : Hid ((x.ns[m]?).join = x.ns.getD m none) := by unfold Hid; rw [List.getD_eq_getElem?_getD, List.getElem?_eq_getElem hlm]; rfl
          have hxh := hck.2.2.1
          cases hq : x.ns.getD m none with
          | none =>
            rw [hq, nodeCells_none, Array.toArray_toList] at hrg
            rw [hq] at hnd
            clear hq hck hxh
            gi_upto_region 7 with (fail)
            have hb5 := blk_new wi (.cells (nodeOf zeroHash false) 107)
            have hc5 : Chg [] wi (wi.alloc (.cells (nodeOf zeroHash false) 107)) := (Chg.refl _ _).alloc _
            generalize wi.alloc (.cells (nodeOf zeroHash false) 107) = w5 at *
            have q1 : w5.cell? ⟨wi.heap.size, 32, none⟩ = some (.bool false) := blk_cell hb5 32 (node_flag zeroHash_size _)
            clear hb5
            refine wpIn_region_quiet_lit rfl (by kernel_rfl) (by kernel_rfl) ?_
            repeat (gi_big_quiet_step (fail))
            refine BigFrame.wpQuietIn_skip (fun _ _ _ _ => trivial) (by kernel_rfl) ?_
            simp only [Act.put, List.setIfInBounds_toArray, List.set_cons_succ, List.set_cons_zero]
            repeat (gi_big_quiet_step (fail))
            refine wpQuietIn_nil ?_
            rintro w6 ⟨nr, rfl⟩
            clear q1
            gi_wp2
            have hc6 := hc5.drewN nr
            go_roundw
            case rel => exact ⟨m + 1, D2, by omega, by go_num, hA.chg hc6, by
              have : ckUp s.log x (m + 1) = ckUp s.log x m := by rw [ckUp, hnd.out]; simp
              rw [this]
              exact hJ _ _ _ _ [] hj hc6 (by simp), by have := hc6.size; omega, hc6.at hkr (by simp), hDr⟩
            case measure => simp [intOf]; omega
          | some h =>
            have hh : IsHash h := hxh h (by rw [← hq, List.getD_eq_getElem?_getD, List.getElem?_eq_getElem hlm, Option.getD_some]; exact List.getElem_mem hlm)
            rw [hq, nodeCells_some, Array.toArray_toList] at hrg
            rw [hq] at hnd
            clear hq hck hxh
            have hh1 := hh.1
            have hh2 := hh.one
            gi_upto_region 7 with (fail)
            have hb5 := blk_new wi (.cells (nodeOf h true) 107)
            have hc5 : Chg [] wi (wi.alloc (.cells (nodeOf h true) 107)) := (Chg.refl _ _).alloc _
            generalize wi.alloc (.cells (nodeOf h true) 107) = w5 at *
            have hA5 := (hA.chg hc5).chg ((Chg.refl [] w5).drew)
            have hj5 := hJ _ _ _ _ [] (hJ _ _ _ _ [] hj hc5 (by simp)) ((Chg.refl [] w5).drew) (by simp)
            have hk5 := hc5.at hkr (by simp)
            have q1 : w5.cell? ⟨wi.heap.size, 32, none⟩ = some (.bool true) := blk_cell hb5 32 (node_flag hh1 _)
            have q2 : rng? w5 wi.heap.size 0 32 = some h := rng?_mk hh1 fun j hj => by
              rw [hh1] at hj
              refine blk_cell hb5 (0 + j) ?_
              rw [Nat.zero_add]
              simp [nodeOf, Array.getElem?_push, hh1, hj]
              omega
            have q3 : w5.cell? ⟨wo.heap.size, 0, none⟩ = some (.int .u64 (x.k : Nat)) := blk_cell hk5 0 rfl
            have q4 : w5.cell? ⟨Bs, 0, none⟩ = some (.pointer (some ⟨b, 0, none⟩)) := blk_cell hA5.bx 0 rfl
            have q5 : w5.cell? ⟨b, 0, none⟩ = some (.int .i64 s.log) := hA5.st.cell0
            refine wpIn_region_head 16 (by kernel_rfl) (by kernel_rfl) ?_
            simp only [List.take_succ_cons, List.take_zero, List.drop_succ_cons, List.drop_zero]
            repeat (gi_big_quiet_step (fail))
            refine wpQuietIn_nil ?_
            rw [place_or x.k m s.log hlog hkb.2.2 (by omega)]
            have hpre : s.allOf (ks.take n) ++ ckUp s.log x m ++ [(x.k * 2 ^ s.log + m, h)] = s.allOf (ks.take n) ++ ckUp s.log x (m + 1) := by
              rw [ckUp, hnd.out, List.append_assoc]; rfl
            have hsp : AllPre s (s.allOf (ks.take n) ++ ckUp s.log x m ++ [(x.k * 2 ^ s.log + m, h)]) := by
              rw [hpre]; exact allPre_at hA5.st.2.2.2.2.2 hks hup hlt HX.out (by omega)
            obtain ⟨fn, tmps, assign, body, hy, hR⟩ := hY _ (x.k * 2 ^ s.log + m, h) w5.drew D2 hj5 (fun k hk => (hA5.d k hk).1) hsp
            dsimp only at hy
            rw [show ((x.k * 2 ^ s.log + m : Nat) : Int) = (x.k : Int) * 2 ^ s.log + (m : Int) from by simp] at hy
            have HPRE := Lib.hid hpre
            have hk6 : w5.drew.heap[wo.heap.size]? = some (.cells #[.int .u64 (x.k : Nat)] 93 (0, 0)) := hk5
            have hz6 : wi.heap.size ≤ w5.drew.heap.size := (hc5.drew).size
            clear q1 q2 q3 q4 q5 hpre hb5 hk5 hc5 hj hkr
            generalize w5.drew = w6 at *
            gi_wp2
            refine ⟨rfl, hR.mono ?_⟩
            clear hy hR
            rintro e w7 ⟨D7, hd7, hc7, (⟨rfl, hj7⟩ | ⟨rfl, hj7⟩)⟩
            · have hA7 := hA5.step hc7 hd7
              have hk7 := hc7.at hk6 (fun hm => hDr _ hm rfl)
              have hz7 := hc7.size
              gi_wp2
              go_roundw
              case rel => exact ⟨m + 1, D7, by omega, by go_num, hA7, by rw [← HPRE.out]; exact hj7, by omega, hk7, fun k hk => by
                rcases (hd7 k hk).2 with q | q
                · exact hDr k q
                · omega⟩
              case measure => simp [intOf]; omega
            · gi_wp2
              refine bodyPost_ret (results_none rfl _ _ _) rfl ?_
              exact ⟨⟨_, rfl⟩, .inr ⟨_, D7, hsp, hj7⟩⟩
        · have hml : m = x.ns.length := by omega
          have HML := Lib.hid hml
          clear hml
          gi_wp2
          refine ⟨⟨n + 1, D2, by omega, by go_num, hA, ?_, by omega⟩, by simp [intOf]; omega⟩
          rw [← allOf_next hlt HX.out, ← HML.out]
          exact hj
    · have hnk : n = ks.length := by omega
      have HNK := Lib.hid hnk
      clear hnk
      gi_wp2
      go_end0
      refine ⟨⟨_, rfl⟩, .inl ⟨s.allOf ks, D1, allOf_is hA.st.2.2.2.2.2 hks hup, ?_⟩⟩
      rw [HNK.out, List.take_length] at hj
      exact hj
end Go.Proofs.YtnodjlgihhinpaaDoor

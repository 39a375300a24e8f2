/- The store: kill. -/
import Derived.Test.YtonppfebmeehcaaStE
import Derived.Test.YtonppfebmeehcaaStF
import Derived.Test.YtonppfebmeehcaaStD
namespace Go.Proofs.Ytonppfebmeehcaa
open Go.RowKit
set_option linter.unusedVariables false
set_option linter.unusedSimpArgs false

theorem kill_dead (b p : Nat) (s : SS) (w : World) (hst : StIs w b s) (hp : p < 18446744073709551616) (hn : s.node p = none) :
    Calls Try.prog 46 #[.pointer (some ⟨b, 0, none⟩), .int .u64 p] w (Res w [] (.bool false)) := by
  have hf := Lib.hid (node_nil hn)
  clear hn
  go_enter Try.func46, Try.ntmps46
  go_wp2_with (go_at_call 47; refine (find_calls b p s _ hst hp).mono ?_; rintro e w1 ⟨rfl, hc⟩; rw [hf.out])
  go_ret
  exact ⟨rfl, hc⟩

theorem set_get (ns : List (Option (Array Value))) (a : Nat) (i : Nat) (ha : a < ns.length) : ((ns.set a none)[i]?).join = if i = a then none else (ns[i]?).join := by
  by_cases h : i = a
  · subst h; rw [if_pos rfl, List.getElem?_set_self ha]; rfl
  · rw [if_neg h, List.getElem?_set_ne (fun e => h e.symm)]
theorem set_live (ns : List (Option (Array Value))) (a : Nat) {h : Array Value} (hn : (ns[a]?).join = some h) : liveOf ns = liveOf (ns.set a none) + 1 ∧ a < ns.length := by
  have ha : a < ns.length := by
    by_cases h : a < ns.length
    · exact h
    · rw [List.getElem?_eq_none (by omega)] at hn; cases hn
  rw [List.getElem?_eq_getElem ha] at hn
  have hn : ns[a] = some h := by simpa using hn
  refine ⟨?_, ha⟩
  unfold liveOf
  rw [List.countP_set ha]
  have : 0 < List.countP (·.isSome) ns := List.countP_pos_iff.2 ⟨ns[a], List.getElem_mem ha, by rw [hn]; rfl⟩
  simp [hn]
  omega

theorem kill_ck {w' : World} {c nb cap k at_ : Nat} {ns : List (Option (Array Value))} {cur : Array Value} {lv : Int}
    (hC : w'.heap[c]? = some (.cells #[.slice (some ⟨nb, 0, none⟩) ns.length cap, .int .i64 lv] 110 (0, 0))) (hlv : lv = ((liveOf (ns.set at_ none) : Nat) : Int))
    (hN : w'.heap[nb]? = some (.cells (cur.toList.take (at_ * 33) ++ (nodeOf zeroHash false).toList ++ cur.toList.drop (at_ * 33 + 33)).toArray 87 (0, 0)))
    (hn : ns.length ≤ cap) (hm : cap ≤ maxLen) (hs : cur.size = cap * 33) (ht : cur.toList.take (ns.length * 33) = cellsOf ns) (hI : ∀ q, some q ∈ ns → IsHash q) (ha : at_ < ns.length) :
    CkIs w' ⟨k, c, nb, cap, ns.set at_ none⟩ := by
  have hl : (ns.set at_ none).length = ns.length := by simp
  have hI' : ∀ q, some q ∈ ns.set at_ none → IsHash q := by
    intro q hq
    rcases List.mem_or_eq_of_mem_set hq with h | h
    · exact hI q h
    · cases h
  have hz : (nodeOf zeroHash false).toList.length = 33 := by simpa using nodeOf_size zeroHash_size false
  refine ⟨?_, ⟨?_, .inr ⟨nb, cap, _, by rw [hl], Nat.zero_le _, hN, by rw [hl]; exact hn, hm, ?_, ?_⟩⟩, hI', hm⟩
  · rw [hC, hlv, hl]
  · rw [cellsOf_length hI']
  · simp only [List.size_toArray, List.length_append, List.length_take, List.length_drop, Array.length_toList, hz, hs]
    omega
  · simp only [hl]
    rw [cellsOf_set hI ha, ← ht, nodeCells_none]
    exact take_mid cur.toList _ (at_ * 33) _ hz (by omega) (by simp; omega)

theorem del_close {w w' : World} {b p : Nat} {s : SS} {l1 l2 : List Ck} {x : Ck} {F : List Nat} {h : Array Value}
    (hst : StIs w b s) (hx : s.look p = some x) (hn : (x.ns[qa s.log p]?).join = some h) (hone : liveOf x.ns = 1) (hs : s.cks = l1 ++ x :: l2) (hk : ∀ y ∈ l1 ++ l2, y.k ≠ qk s.log p)
    (hch : Chg F w w') (hF : ∀ k ∈ F, k ∈ s.foot b ∨ w.heap.size ≤ k) (hF1 : ∀ y ∈ l1 ++ l2, y.c ∉ F ∧ y.nb ∉ F) (hF2 : s.pm ∉ F)
    (hb : w'.heap[b]? = some (.cells #[.int .i64 s.log, .int .u64 s.n, .int .u64 (s.alive - 1 : Nat), .map (some s.cm), .map (some s.pm)] 80 (0, 0)))
    (hm : MapIs encK w' s.cm ((l1 ++ l2).map fun x => (x.k, .pointer (some ⟨x.c, 0, none⟩)))) :
    ∃ s', StIs w' b s' ∧ PutRel s s' p none (s.alive - 1) ∧ Mv (s.foot b) (s'.foot b) w w' := by
  obtain ⟨hb0, hm0, hpm, hck, hap, hok⟩ := hst
  have hin : ∀ y ∈ l1 ++ l2, y ∈ s.cks := by
    intro y hy
    rw [hs]
    rcases List.mem_append.1 hy with q | q <;> simp [q]
  have hal : ((l1 ++ l2).map fun x => liveOf x.ns).sum = s.alive - 1 := by
    unfold SS.alive
    rw [hs]
    simp [hone]
    omega
  have hnode : ∀ q, ({ s with cks := l1 ++ l2 } : SS).node q = if q = p then none else s.node q := by
    intro q
    have hf1 : ∀ (l : List Ck), (∀ y ∈ l, y.k ≠ qk s.log p) → qk s.log q = qk s.log p → l.find? (fun x => decide (x.k = qk s.log q)) = none := by
      intro l hl e
      rw [List.find?_eq_none]
      intro y hy
      simp only [decide_eq_true_eq]
      rw [e]
      exact hl y hy
    have hl1 := hf1 l1 (fun y hy => hk y (by simp [hy]))
    have hl2 := hf1 l2 (fun y hy => hk y (by simp [hy]))
    have hxk : x.k = qk s.log p := (look_mem hx).2
    unfold SS.node SS.look
    simp only [hs, List.find?_append, List.find?_cons]
    by_cases e : qk s.log q = qk s.log p
    · rw [hl1 e, hl2 e]
      simp only [Option.none_or, Option.bind_none, hxk, e, decide_true, Option.bind_some]
      by_cases ea : qa s.log q = qa s.log p
      · rw [if_pos (qkqa e ea)]
      · rw [if_neg (fun q' => ea (by rw [q']))]
        obtain ⟨h1, h2⟩ := set_live x.ns _ hn
        rw [hone] at h1
        have h0 : liveOf (x.ns.set (qa s.log p) none) = 0 := by omega
        have h3 := set_get x.ns (qa s.log p) (qa s.log q) h2
        rw [if_neg ea] at h3
        rw [← h3]
        cases hq : (x.ns.set (qa s.log p) none)[qa s.log q]? with
        | none => rfl
        | some o =>
          cases o with
          | none => rfl
          | some u =>
            exfalso
            have : 0 < liveOf (x.ns.set (qa s.log p) none) := List.countP_pos_iff.2 ⟨some u, List.mem_of_getElem? hq, rfl⟩
            omega
    · rw [if_neg (fun q' => e (by rw [q']))]
      have e' : ¬ qk s.log p = qk s.log q := fun q' => e q'.symm
      simp only [hxk, e', decide_false]
  refine ⟨{ s with cks := l1 ++ l2 }, ⟨?_, hm, hpm.chg hch hF2, ?_, ?_, ?_⟩, ⟨rfl, rfl, rfl, hal, hnode⟩, hch.mono ?_, ?_⟩
  · rw [hb]
    unfold SS.alive
    simp only [hal]
    rfl
  · intro y hy
    have := hF1 y hy
    exact (hck y (hin y hy)).chg hch this.1 this.2
  · refine ⟨hap.head, fun y hy => hap.each y (hin y hy), ?_⟩
    have h2 := hap.two
    rw [hs] at h2
    exact h2.sublist (List.Sublist.append (List.Sublist.refl _) (List.sublist_cons_self _ _))
  · refine ⟨hok.log, hok.n, fun y hy => hok.key y (hin y hy), hok.pin, ?_, by unfold SS.alive; simp only [hal]; exact Nat.le_trans (Nat.sub_le _ _) hok.al⟩
    intro q hq
    rw [hnode q] at hq
    by_cases e : q = p
    · rw [if_pos e] at hq; cases hq
    · rw [if_neg e] at hq; exact hok.top q hq
  · intro k hk hlt
    rcases hF k hk with q | q
    · exact q
    · omega
  · intro k hk
    left
    simp only [SS.foot, List.mem_cons, List.mem_flatMap, List.not_mem_nil, or_false] at hk ⊢
    rcases hk with q | q | q | ⟨y, hy, hky⟩
    · exact .inl q
    · exact .inr (.inl q)
    · exact .inr (.inr (.inl q))
    · exact .inr (.inr (.inr ⟨y, hin y hy, hky⟩))

def KillPost (w : World) (b : Nat) (s : SS) (p : Nat) (e : Ending) (w' : World) : Prop :=
  e = .returned (.bool true) ∧ ∃ s', StIs w' b s' ∧ PutRel s s' p none (s.alive - 1) ∧ Mv (s.foot b) (s'.foot b) w w'
end Go.Proofs.Ytonppfebmeehcaa

/- The store: the places that live; what two stores with the same nodes have in common. -/
import Derived.Test.YtgmkmcaekolagaaStE
namespace Go.Proofs.Ytgmkmcaekolagaa
open Go.RowKit

theorem nodup_len {α : Type} [BEq α] [LawfulBEq α] : ∀ {l m : List α}, l.Nodup → (∀ x ∈ l, x ∈ m) → l.length ≤ m.length := by
  intro l
  induction l with
  | nil => intro m _ _; simp
  | cons a l ih =>
    intro m hn hs
    rw [List.nodup_cons] at hn
    have ha : a ∈ m := hs a (by simp)
    have := ih (m := m.erase a) hn.2 (by
      intro x hx
      have hxa : x ≠ a := fun e => hn.1 (e ▸ hx)
      exact (List.mem_erase_of_ne hxa).2 (hs x (by simp [hx])))
    rw [List.length_erase_of_mem ha] at this
    have : 0 < m.length := List.length_pos_of_mem ha
    simp
    omega

theorem range_count {α : Type} (p : α → Bool) : ∀ (l : List α), ((List.range l.length).filter fun i => (l[i]?).any p).length = l.countP p := by
  intro l
  induction l with
  | nil => rfl
  | cons a l ih =>
    rw [List.length_cons, List.range_succ_eq_map, List.filter_cons, List.countP_cons, List.filter_map]
    have e : (fun i => ((a :: l)[i]?).any p) ∘ Nat.succ = fun i => (l[i]?).any p := by funext i; simp
    rw [e]
    by_cases h : p a = true
    · simp [h, ih]
    · simp [h, ih]

/-- The places in a chunk that live, rising. -/
def ckPl (log : Nat) (x : Ck) : List Nat := ((List.range x.ns.length).filter fun i => (x.ns[i]?).any (·.isSome)).map fun i => x.k * 2 ^ log + i
theorem ckPl_len (log : Nat) (x : Ck) : (ckPl log x).length = liveOf x.ns := by
  unfold ckPl liveOf
  rw [List.length_map, range_count]
theorem qk_at {log k i : Nat} (h : i < 2 ^ log) : qk log (k * 2 ^ log + i) = k ∧ qa log (k * 2 ^ log + i) = i := by
  unfold qk qa
  have hp : 0 < 2 ^ log := Nat.two_pow_pos _
  constructor
  · rw [Nat.mul_comm, Nat.mul_add_div hp, Nat.div_eq_of_lt h]; omega
  · rw [Nat.mul_comm, Nat.mul_add_mod, Nat.mod_eq_of_lt h]
theorem ckPl_mem {log : Nat} {x : Ck} (hl : x.ns.length ≤ 2 ^ log) (q : Nat) : q ∈ ckPl log x ↔ qk log q = x.k ∧ ((x.ns[qa log q]?).join).isSome = true := by
  unfold ckPl
  constructor
  · intro h
    obtain ⟨i, hi, rfl⟩ := List.mem_map.1 h
    rw [List.mem_filter, List.mem_range] at hi
    obtain ⟨e1, e2⟩ := qk_at (k := x.k) (Nat.lt_of_lt_of_le hi.1 hl)
    refine ⟨e1, ?_⟩
    rw [e2, List.getElem?_eq_getElem hi.1]
    have := hi.2
    rw [List.getElem?_eq_getElem hi.1] at this
    simpa using this
  · rintro ⟨h1, h2⟩
    have ha : qa log q < x.ns.length := by
      by_cases h : qa log q < x.ns.length
      · exact h
      · rw [List.getElem?_eq_none (by omega)] at h2; simp at h2
    refine List.mem_map.2 ⟨qa log q, List.mem_filter.2 ⟨List.mem_range.2 ha, ?_⟩, ?_⟩
    · rw [List.getElem?_eq_getElem ha] at h2 ⊢
      simpa using h2
    · rw [← h1]; unfold qk qa; rw [Nat.mul_comm]; exact Nat.div_add_mod q _
theorem ckPl_nodup (log : Nat) (x : Ck) : (ckPl log x).Nodup := by
  unfold ckPl List.Nodup
  rw [List.pairwise_map]
  have h1 : (List.range x.ns.length).Pairwise (fun a b => a ≠ b) := List.nodup_range
  exact (h1.filter _).imp (fun h e => h (by omega))

def SS.places (s : SS) : List Nat := s.cks.flatMap (ckPl s.log)
theorem places_len (s : SS) : s.places.length = s.alive := by
  unfold SS.places SS.alive
  rw [List.length_flatMap]
  congr 1
  exact List.map_congr_left (fun x _ => ckPl_len s.log x)
def SS.keys (s : SS) : List Nat := s.cks.map (·.k)
theorem keys_nodup {w : World} {b : Nat} {s : SS} (h : StIs w b s) : s.keys.Nodup := by
  obtain ⟨_, _, _, _, hn, _⟩ := h.2.1
  rw [List.map_map] at hn
  exact hn
theorem look_of {s : SS} (hk : s.keys.Nodup) {x : Ck} (hx : x ∈ s.cks) {q : Nat} (hq : qk s.log q = x.k) : s.look q = some x := by
  unfold SS.look SS.keys at *
  revert hk hx
  generalize s.cks = l
  induction l with
  | nil => intro _ hx; simp at hx
  | cons y l ih =>
    intro hk hx
    rw [List.map_cons, List.nodup_cons] at hk
    rcases List.mem_cons.1 hx with rfl | hx
    · rw [List.find?_cons_of_pos (by simp [hq])]
    · have : ¬ y.k = x.k := fun e => hk.1 (by rw [e]; exact List.mem_map.2 ⟨x, hx, rfl⟩)
      rw [List.find?_cons_of_neg (by simp [hq, this])]
      exact ih hk.2 hx
theorem places_mem {w : World} {b : Nat} {s : SS} (h : StIs w b s) (q : Nat) : q ∈ s.places ↔ (s.node q).isSome = true := by
  unfold SS.places
  rw [List.mem_flatMap]
  constructor
  · rintro ⟨x, hx, hq⟩
    rw [ckPl_mem (h.2.2.2.2.2.key x hx).1] at hq
    unfold SS.node
    rw [look_of (keys_nodup h) hx hq.1]
    exact hq.2
  · intro hq
    unfold SS.node at hq
    cases hl : s.look q with
    | none => rw [hl] at hq; simp at hq
    | some x =>
      obtain ⟨hx, hk⟩ := look_mem hl
      rw [hl] at hq
      exact ⟨x, hx, (ckPl_mem (h.2.2.2.2.2.key x hx).1 q).2 ⟨hk.symm, hq⟩⟩
theorem places_nodup {w : World} {b : Nat} {s : SS} (h : StIs w b s) : s.places.Nodup := by
  unfold SS.places
  have hk := keys_nodup h
  unfold SS.keys at hk
  have hl : ∀ x ∈ s.cks, x.ns.length ≤ 2 ^ s.log := fun x hx => (h.2.2.2.2.2.key x hx).1
  revert hk hl
  generalize s.cks = l
  induction l with
  | nil => intro _ _; simp
  | cons y l ih =>
    intro hk hl
    rw [List.map_cons, List.nodup_cons] at hk
    rw [List.flatMap_cons, List.nodup_append]
    refine ⟨ckPl_nodup _ _, ih hk.2 (fun x hx => hl x (by simp [hx])), ?_⟩
    intro a ha c hc e
    subst e
    rw [ckPl_mem (hl y (by simp))] at ha
    obtain ⟨z, hz, hz2⟩ := List.mem_flatMap.1 hc
    rw [ckPl_mem (hl z (by simp [hz]))] at hz2
    exact hk.1 (List.mem_map.2 ⟨z, hz, by rw [← ha.1, ← hz2.1]⟩)
theorem keys_mem {w : World} {b : Nat} {s : SS} (h : StIs w b s) (k : Nat) : k ∈ s.keys ↔ ∃ q, (s.node q).isSome = true ∧ qk s.log q = k := by
  unfold SS.keys
  constructor
  · intro hk
    obtain ⟨x, hx, rfl⟩ := List.mem_map.1 hk
    have h1 : 0 < (ckPl s.log x).length := by rw [ckPl_len]; exact (h.2.2.2.2.2.key x hx).2.1
    obtain ⟨q, hq⟩ := List.exists_mem_of_length_pos h1
    refine ⟨q, (places_mem h q).1 (List.mem_flatMap.2 ⟨x, hx, hq⟩), ?_⟩
    exact ((ckPl_mem (h.2.2.2.2.2.key x hx).1 q).1 hq).1
  · rintro ⟨q, hq, rfl⟩
    unfold SS.node at hq
    cases hl : s.look q with
    | none => rw [hl] at hq; simp at hq
    | some x =>
      obtain ⟨hx, hk⟩ := look_mem hl
      exact List.mem_map.2 ⟨x, hx, hk⟩
theorem same_counts {w w' : World} {b b' : Nat} {s t : SS} (h : StIs w b s) (h' : StIs w' b' t) (hl : s.log = t.log) (hn : ∀ q, s.node q = t.node q) : s.alive = t.alive ∧ s.cks.length = t.cks.length := by
  have e1 : ∀ q, q ∈ s.places ↔ q ∈ t.places := fun q => by rw [places_mem h, places_mem h', hn]
  have e2 : ∀ k, k ∈ s.keys ↔ k ∈ t.keys := fun k => by rw [keys_mem h, keys_mem h']; simp only [hn, hl]
  have l1 := Nat.le_antisymm (nodup_len (places_nodup h) (fun q hq => (e1 q).1 hq)) (nodup_len (places_nodup h') (fun q hq => (e1 q).2 hq))
  have l2 := Nat.le_antisymm (nodup_len (keys_nodup h) (fun q hq => (e2 q).1 hq)) (nodup_len (keys_nodup h') (fun q hq => (e2 q).2 hq))
  rw [places_len, places_len] at l1
  refine ⟨l1, ?_⟩
  simpa [SS.keys] using l2
end Go.Proofs.Ytgmkmcaekolagaa

/- (L5B's first part, for seats without StorePins; never import both.) awake, StorePins. -/
import Derived.Test.YtonppfebmeehcaaL5A
namespace Go.Proofs.Ytonppfebmeehcaa
open Go.RowKit
set_option linter.unusedVariables false
set_option linter.unusedSimpArgs false

theorem pin_nil {s : SS} (h : s.pins = []) (p : Nat) : s.pin p = 0 := by simp [SS.pin, h]

theorem FillInv.last {w wr : World} {b log : Nat} {hs : List (Array Value)} {k : Nat} (h : FillInv w b log hs k wr) (hk : k ≤ hs.length) : ∃ s, StIs wr b s ∧ s.log = log ∧ s.n = k ∧ s.alive = k ∧ s.pins = [] ∧ (∀ q, s.node q = if q < k then hs[q]? else none) ∧ Chg [] w wr ∧ ∀ x ∈ s.foot b, w.heap.size ≤ x := by
  obtain ⟨s, h1, h2, h3, h4⟩ := h
  exact ⟨s, h1, h2.log, h2.n, h2.alive, h2.pins, h2.node, h3, h4⟩

set_option maxRecDepth 100000 in
theorem awake_calls (w : World) : Calls Try.prog 31 #[] w (Res w [] (.bool true)) := by
  have h7 := hash1_is (n := 7) (by omega) (by omega)
  have h8 := hash1_is (n := 8) (by omega) (by omega)
  have s7 := hash1_size 7
  have s8 := hash1_size 8
  have o7 := h7.one
  have o8 := h8.one
  have e8 : eqH (hash1 8) (hash1 8) = true := eqH_self
  have hb7 := bd_Hash1 7
  have hb8 := bd_Hash1 8
  generalize hash1 7 = H7 at *
  generalize hash1 8 = H8 at *
  go_enter Try.func31, Try.ntmps31
  go_wp2_with fail
  refine (new_ok 1 _ (by omega)).mono ?_
  rintro e w1 ⟨b, s, rfl, h1, h2, h3, h4, h5, h6, h7'⟩
  obtain ⟨s0, hst0, hfl0, hc0, hf0⟩ := FillInv.zero (hs := [H7, H8]) h1 h2 h3 h4 h5 h6 h7'
  clear h1 h2 h3 h4 h5 h6 h7'
  have hp0 := push_calls b s0 H7 w1 hst0 h7 (by rw [hfl0.n]; omega) (by rw [hfl0.alive]; omega)
  go_wp2_with fail
  refine hp0.mono ?_
  intro e w2 hp
  obtain ⟨rfl, s1, hst1, hfl1, hc1, hf1⟩ := FillInv.push hfl0 hc0 hf0 rfl hp
  have hp1 := push_calls b s1 H8 w2 hst1 h8 (by rw [hfl1.n]; omega) (by rw [hfl1.alive]; omega)
  clear hp hp0 hst0 hfl0 hc0 hf0
  go_wp2_with fail
  refine hp1.mono ?_
  intro e w3 hp
  obtain ⟨rfl, s2, hst2, hfl2, hc2, hf2⟩ := FillInv.push hfl1 hc1 hf1 rfl hp
  clear hp hp1 hst1 hfl1 hc1 hf1
  have hn0 : s2.node 0 = some H7 := by rw [hfl2.node]; rfl
  have hn1 : s2.node 1 = some H8 := by rw [hfl2.node]; rfl
  have hd := drop_live b 0 s2 w3 hst2 (by omega) (pin_nil hfl2.pins 0) hn0
  go_wp2_with fail
  refine hd.mono ?_
  rintro e w4 ⟨rfl, s3, hst3, hrel, hmv⟩
  have hn3 : s3.n = 2 := by rw [hrel.n, hfl2.n]
  have ha3 : s3.alive = 1 := by rw [hrel.alive, hfl2.alive]
  have hH1 : s3.getH 1 = H8 := by simp [SS.getH, hn3, hrel.node, hn1]
  have hE1 : s3.getE 1 = 0 := by simp [SS.getE, hn3, hrel.node, hn1]
  have hE0 : s3.getE 0 = 50 := by simp [SS.getE, hn3, hrel.node]
  have hc4 : Chg [] w w4 := hc2.trans hmv.1 (by intro x hx; right; exact hf2 x hx)
  clear hd hfl2 hn0 hn1 hmv hrel hst2 hf2
  have hg1 := get_calls b 1 s3 w4 hst3 (by omega)
  rw [hH1, hE1] at hg1
  go_wp2_with fail
  refine hg1.mono ?_
  rintro e w5 ⟨rfl, hc5⟩
  have hr5 : rng? (w5.alloc (.cells H8 30)) w5.heap.size 0 32 = some H8 := rng?_alloc_at _ _ _ _ _ rfl s8
  have hst6 := hst3.chg0 (hc5.alloc (.cells H8 30))
  have hz := IsHash.getH hst3 0
  have hz1 := hz.1
  have hz2 := hz.one
  have hg0 := get_calls b 0 s3 _ hst6 (by omega)
  rw [hE0] at hg0
  generalize s3.getH 0 = Z at *
  clear hg1 hH1 hE1 hE0
  go_wp2_with fail
  refine hg0.mono ?_
  rintro e w7 ⟨rfl, hc7⟩
  have hr7 := rng?_chg hc7 hr5 (by omega) (by simp)
  have hlt : w5.heap.size < w7.heap.size := by have := hc7.size; simp at this; omega
  have hst8 := hst6.chg0 (hc7.alloc (.cells Z 30))
  have hlen := len_calls b s3 _ hst8
  have hal := alive_calls b s3 _ hst8
  rw [hn3] at hlen
  rw [ha3] at hal
  go_wp2_with (first
    | (go_at_call 27; refine hlen.mono ?_; rintro e w8 ⟨rfl, hc8⟩; have hal := alive_calls b s3 _ (hst8.chg0 hc8); rw [ha3] at hal)
    | (go_at_call 25; refine hal.mono ?_; rintro e w9 ⟨rfl, hc9⟩))
  go_ret
  exact ⟨rfl, ((((((hc4.nil_trans hc5).alloc _).nil_trans hc7).alloc _).nil_trans hc8).nil_trans hc9)⟩

/-- What is so of the store while pins are laid on p. -/
structure Base (s : SS) (hs : List (Array Value)) : Prop where
  n : s.n = hs.length
  alive : s.alive = hs.length
  node : ∀ q, s.node q = if q < hs.length then hs[q]? else none

def PinInv (w : World) (b : Nat) (hs : List (Array Value)) (p c : Nat) (wr : World) : Prop :=
  ∃ s, StIs wr b s ∧ Base s hs ∧ s.pin p = c ∧ Chg [] w wr ∧ ∀ x ∈ s.foot b, w.heap.size ≤ x

theorem Base.getE {s : SS} {hs : List (Array Value)} (h : Base s hs) {p : Nat} (hp : p < hs.length) : s.getE p = 0 := by
  unfold SS.getE
  rw [h.n, if_pos hp, h.node, if_pos hp, List.getElem?_eq_getElem hp]
  rfl
theorem Base.getE_far {s : SS} {hs : List (Array Value)} (h : Base s hs) {p : Nat} (hp : hs.length ≤ p) : s.getE p = 31 := by
  unfold SS.getE
  rw [h.n, if_neg (by omega)]

end Go.Proofs.Ytonppfebmeehcaa

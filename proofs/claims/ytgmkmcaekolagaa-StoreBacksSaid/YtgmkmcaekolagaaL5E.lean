/- StoreBacks: the invariant of two stores, and its steps. -/
import Derived.Test.YtgmkmcaekolagaaL5A
import Derived.Test.YtgmkmcaekolagaaL5B
import Derived.Test.YtgmkmcaekolagaaStN
import Derived.Test.YtgmkmcaekolagaaNums
namespace Go.Proofs.Ytgmkmcaekolagaa
open Go.RowKit

structure Abs (s : SS) (log n : Nat) (nd : Nat → Option (Array Value)) : Prop where
  log : s.log = log
  n : s.n = n
  pins : s.pins = []
  node : ∀ q, s.node q = nd q

theorem alive_le {w : World} {b : Nat} {s : SS} (h : StIs w b s) : s.alive ≤ s.n := by
  rw [← places_len]
  have := nodup_len (m := List.range s.n) (places_nodup h) (fun q hq => List.mem_range.2 (h.2.2.2.2.2.top q ((places_mem h q).1 hq)))
  simpa using this

/-- Two stores apart from each other, in memory that is new since w. -/
def Two (w : World) (b c log n : Nat) (nd nt : Nat → Option (Array Value)) (wr : World) : Prop :=
  ∃ s t, StIs wr b s ∧ StIs wr c t ∧ Abs s log n nd ∧ Abs t log n nt ∧ (∀ x ∈ s.foot b, x ∉ t.foot c) ∧ (∀ x ∈ s.foot b, w.heap.size ≤ x) ∧ (∀ x ∈ t.foot c, w.heap.size ≤ x) ∧ Chg [] w wr

theorem Two.chg {w wr w' : World} {b c log n : Nat} {nd nt : Nat → Option (Array Value)} (h : Two w b c log n nd nt wr) (hc : Chg [] wr w') : Two w b c log n nd nt w' := by
  obtain ⟨s, t, h1, h2, h3, h4, h5, h6, h7, h8⟩ := h
  exact ⟨s, t, h1.chg0 hc, h2.chg0 hc, h3, h4, h5, h6, h7, h8.nil_trans hc⟩
theorem Two.cong {w wr : World} {b c log n : Nat} {nd nd' nt : Nat → Option (Array Value)} (h : Two w b c log n nd nt wr) (e : ∀ q, nd q = nd' q) : Two w b c log n nd' nt wr := by
  rw [← funext e]; exact h
theorem Two.put {w wr w' : World} {b c log n p al : Nat} {nd nt : Nat → Option (Array Value)} {s s' t : SS} {o : Option (Array Value)}
    (h2 : StIs wr c t) (h3 : Abs s log n nd) (h4 : Abs t log n nt) (h5 : ∀ x ∈ s.foot b, x ∉ t.foot c) (h6 : ∀ x ∈ s.foot b, w.heap.size ≤ x) (h7 : ∀ x ∈ t.foot c, w.heap.size ≤ x) (h8 : Chg [] w wr)
    (k1 : StIs w' b s') (k2 : PutRel s s' p o al) (k3 : Mv (s.foot b) (s'.foot b) wr w') : Two w b c log n (fun q => if q = p then o else nd q) nt w' := by
  refine ⟨s', t, k1, h2.chg k3.1 (fun x hx e => h5 x e hx), ⟨k2.log.trans h3.log, k2.n.trans h3.n, k2.pins.trans h3.pins, fun q => by rw [k2.node, h3.node]⟩, h4, ?_, ?_, h7, h8.trans k3.1 (fun x hx => .inr (h6 x hx))⟩
  · intro x hx e
    rcases k3.2 x hx with q | q
    · exact h5 x q e
    · have := h2.lt x e; omega
  · intro x hx
    rcases k3.2 x hx with q | q
    · exact h6 x q
    · have := h8.size; omega

def TwoP (w : World) (b c log n : Nat) (nd nt : Nat → Option (Array Value)) (v : Value) (e : Ending) (w' : World) : Prop := e = .returned v ∧ Two w b c log n nd nt w'

section
variable {w wr : World} {b c log n p : Nat} {nd nt : Nat → Option (Array Value)}
theorem two_drop (h : Two w b c log n nd nt wr) (hp : p < n) (hn : n < 18446744073709551616) :
    Calls Try.prog 10 #[.pointer (some ⟨b, 0, none⟩), .int .u64 p] wr (TwoP w b c log n (fun q => if q = p then none else nd q) nt (.int .i64 0)) := by
  have h0 := h
  obtain ⟨s, t, h1, h2, h3, h4, h5, h6, h7, h8⟩ := h
  have hpin := pin_nil h3.pins p
  cases hd : s.node p with
  | none =>
    refine (drop_dead b p s wr h1 (by omega) (by rw [h3.n]; exact hp) hpin hd).mono ?_
    rintro e w' ⟨rfl, hc⟩
    refine ⟨rfl, (h0.chg hc).cong ?_⟩
    intro q
    by_cases e : q = p
    · rw [if_pos e, e, ← h3.node, hd]
    · rw [if_neg e]
  | some x =>
    refine (drop_live b p s wr h1 (by omega) hpin hd).mono ?_
    rintro e w' ⟨rfl, s', k1, k2, k3⟩
    exact ⟨rfl, Two.put h2 h3 h4 h5 h6 h7 h8 k1 k2 k3⟩
theorem two_drop_far (h : Two w b c log n nd nt wr) (hp : n ≤ p) (hp2 : p < 18446744073709551616) :
    Calls Try.prog 10 #[.pointer (some ⟨b, 0, none⟩), .int .u64 p] wr (TwoP w b c log n nd nt (.int .i64 31)) := by
  have h0 := h
  obtain ⟨s, t, h1, h2, h3, h4, h5, h6, h7, h8⟩ := h
  refine (drop_far b p s wr h1 hp2 (by rw [h3.n]; exact hp)).mono ?_
  rintro e w' ⟨rfl, hc⟩
  exact ⟨rfl, h0.chg hc⟩
theorem two_back_far (h : Two w b c log n nd nt wr) (hp : n ≤ p) (hp2 : p < 18446744073709551616) (x : Array Value) :
    Calls Try.prog 11 #[.pointer (some ⟨b, 0, none⟩), .int .u64 p, .agg x] wr (TwoP w b c log n nd nt (.int .i64 31)) := by
  have h0 := h
  obtain ⟨s, t, h1, h2, h3, h4, h5, h6, h7, h8⟩ := h
  refine (back_far b p s x wr h1 hp2 (by rw [h3.n]; exact hp)).mono ?_
  rintro e w' ⟨rfl, hc⟩
  exact ⟨rfl, h0.chg hc⟩
theorem two_back_live (h : Two w b c log n nd nt wr) (hp2 : p < 18446744073709551616) (x : Array Value) {y : Array Value} (hy : nd p = some y) :
    Calls Try.prog 11 #[.pointer (some ⟨b, 0, none⟩), .int .u64 p, .agg x] wr (TwoP w b c log n nd nt (.int .i64 53)) := by
  have h0 := h
  obtain ⟨s, t, h1, h2, h3, h4, h5, h6, h7, h8⟩ := h
  refine (back_live b p s x wr h1 hp2 (by rw [h3.node]; exact hy)).mono ?_
  rintro e w' ⟨rfl, hc⟩
  exact ⟨rfl, h0.chg hc⟩
theorem two_back (h : Two w b c log n nd nt wr) (hp : p < n) (hn : n ≤ 1099511627775) {x : Array Value} (hx : IsHash x) (hy : nd p = none) :
    Calls Try.prog 11 #[.pointer (some ⟨b, 0, none⟩), .int .u64 p, .agg x] wr (TwoP w b c log n (fun q => if q = p then some x else nd q) nt (.int .i64 0)) := by
  obtain ⟨s, t, h1, h2, h3, h4, h5, h6, h7, h8⟩ := h
  have hal := alive_le h1
  rw [h3.n] at hal
  refine (back_ok b p s x wr h1 (by omega) hx (by rw [h3.n]; exact hp) (by rw [h3.node]; exact hy) (by omega)).mono ?_
  rintro e w' ⟨rfl, s', k1, k2, k3⟩
  exact ⟨rfl, Two.put h2 h3 h4 h5 h6 h7 h8 k1 k2 k3⟩
theorem two_live (h : Two w b c log n nd nt wr) (hp : p < n) (hn : n < 18446744073709551616) (v : Bool) (hv : (nd p).isSome = v) :
    Calls Try.prog 12 #[.pointer (some ⟨b, 0, none⟩), .int .u64 p] wr (TwoP w b c log n nd nt (.bool v)) := by
  have h0 := h
  obtain ⟨s, t, h1, h2, h3, h4, h5, h6, h7, h8⟩ := h
  refine (live_calls b p s wr h1 (by omega)).mono ?_
  rintro e w' ⟨rfl, hc⟩
  refine ⟨?_, h0.chg hc⟩
  subst hv
  unfold SS.getE
  rw [h3.n, if_pos hp, h3.node]
  cases nd p <;> rfl
theorem two_pin_dead (h : Two w b c log n nd nt wr) (hp : p < n) (hn : n < 18446744073709551616) (hv : nd p = none) :
    Calls Try.prog 13 #[.pointer (some ⟨b, 0, none⟩), .int .u64 p] wr (TwoP w b c log n nd nt (.int .i64 50)) := by
  have h0 := h
  obtain ⟨s, t, h1, h2, h3, h4, h5, h6, h7, h8⟩ := h
  have hE : s.getE p = 50 := by unfold SS.getE; rw [h3.n, if_pos hp, h3.node, hv]; rfl
  refine (pin_bad b p s wr h1 (by omega) (by rw [hE]; omega)).mono ?_
  rintro e w' ⟨rfl, hc⟩
  exact ⟨by rw [hE], h0.chg hc⟩
end

theorem pins_same (b p : Nat) (s : SS) (w : World) (hst : StIs w b s) : Calls Try.prog 15 #[.pointer (some ⟨b, 0, none⟩), .int .u64 p] w (fun e w' => e = .returned (.int .i64 (s.pin p)) ∧ w' = w) := by
  have hc := hst.cell4
  have hl := lookp hst p
  go_enter Try.func15, Try.ntmps15
  go_wp2
  go_ret
  exact ⟨rfl, rfl⟩
end Go.Proofs.Ytgmkmcaekolagaa

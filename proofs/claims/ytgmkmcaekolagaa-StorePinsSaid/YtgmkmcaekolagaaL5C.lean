/- StorePins: the node is there. -/
import Derived.Test.YtgmkmcaekolagaaL5B
namespace Go.Proofs.Ytgmkmcaekolagaa
open Go.RowKit

theorem Base.withPins {s : SS} {hs : List (Array Value)} (h : Base s hs) (l : List (Nat × Nat)) : Base { s with pins := l } hs := ⟨h.n, h.alive, h.node⟩

theorem PinInv.pin {w wr w' : World} {b : Nat} {hs : List (Array Value)} {p c : Nat} {s : SS} {e : Ending} (hB : Base s hs) (hp : s.pin p = c) (hc : Chg [] w wr) (hf : ∀ x ∈ s.foot b, w.heap.size ≤ x)
    (h : StP wr b { s with pins := pput s.pins p (s.pin p + 1) } [s.pm] (.int .i64 0) e w') : e = .returned (.int .i64 0) ∧ PinInv w b hs p (c + 1) w' := by
  obtain ⟨he, h1, h2⟩ := h
  exact ⟨he, _, h1, hB.withPins _, by rw [pin_put, if_pos rfl, hp], hc.trans h2 (by intro x hx; right; simp at hx; subst hx; exact hf _ (by simp [SS.foot])), hf⟩
theorem PinInv.unpin {w wr w' : World} {b : Nat} {hs : List (Array Value)} {p c : Nat} {s : SS} {e : Ending} (hB : Base s hs) (hp : s.pin p = c + 1) (hc : Chg [] w wr) (hf : ∀ x ∈ s.foot b, w.heap.size ≤ x)
    (h : StP wr b { s with pins := unp s.pins p (s.pin p) } [s.pm] (.int .i64 0) e w') : e = .returned (.int .i64 0) ∧ PinInv w b hs p c w' := by
  obtain ⟨he, h1, h2⟩ := h
  exact ⟨he, _, h1, hB.withPins _, by rw [pin_unp, if_pos rfl, hp]; rfl, hc.trans h2 (by intro x hx; right; simp at hx; subst hx; exact hf _ (by simp [SS.foot])), hf⟩

set_option maxRecDepth 100000 in
theorem pins_near (log p pins : Nat) (v : Value) (hs : List (Array Value)) (w : World) (hl : log ≤ 16) (hlen : hs.length ≤ 200) (hv : HsIs w v hs) (hpins : pins ≤ 300) (hnear : p < hs.length) :
    Calls Try.prog 4 #[.int .i64 log, v, .int .u64 p, .int .i64 pins] w (Res w [] (.bool true)) := by
  have hfill := fill_calls log v hs w hl hlen hv
  obtain ⟨hI, a, cap, rfl, hr⟩ := hv
  clear hr
  have d1 : decide ((log : Int) < 0) = false := by simp
  have d2 : decide ((16 : Int) < log) = false := by simp; omega
  have d3 : decide ((200 : Int) < hs.length) = false := by simp; omega
  have d4 : decide ((pins : Int) < 0) = false := by simp
  have d5 : decide ((300 : Int) < pins) = false := by simp; omega
  have d6 : decide (hs.length ≤ p) = false := by simp; omega
  go_enter Try.func4, Try.ntmps4
  go_wp2_with (go_at_call 9; refine hfill.mono ?_; rintro e w1 ⟨b, rfl, s, hst, hfl, hc, hf⟩)
  have h0 : PinInv w b hs p 0 w1 := ⟨s, hst, ⟨hfl.n, hfl.alive, hfl.node⟩, pin_nil hfl.pins p, hc, hf⟩
  clear hst hfl hc hf hfill
  go_loopg [11] pins (fun n i wr => ∃ k : Nat, k ≤ pins ∧ n = pins - k ∧ i = .int .i64 k ∧ PinInv w b hs p k wr)
  case atStart => exact ⟨0, Nat.zero_le _, by omega, rfl, h0⟩
  case round =>
    obtain ⟨k, hk, hgk, rfl, s, hst, hB, hpc, hc, hf⟩ := hrel
    by_cases hlt : k < pins
    · have hpin := pin_ok b p s wr hst (by omega) (hB.getE hnear) (by omega)
      have HP := Lib.hid hpc
      clear hpc h0
      go_wp2_with (go_at_call 13; refine hpin.mono ?_; rintro e w2 hh; obtain ⟨rfl, hinv⟩ := PinInv.pin hB HP.out hc hf hh)
      go_roundg (pins - (k + 1))
      case measure => omega
      case rel => exact ⟨k + 1, by omega, rfl, by go_num, hinv⟩
    · obtain rfl : k = pins := by omega
      clear h0
      have h0 : PinInv w b hs p k wr := ⟨s, hst, hB, hpc, hc, hf⟩
      clear hst hB hpc hc hf hlt
      go_wp2
      go_loopg [12] k (fun n i wr => ∃ j : Nat, j ≤ k ∧ n = j ∧ i = .int .i64 j ∧ PinInv w b hs p j wr)
      case atStart => exact ⟨k, Nat.le_refl _, rfl, rfl, h0⟩
      case round =>
        obtain ⟨j, hj, hgj, rfl, s, hst, hB, hpc, hc, hf⟩ := hrel
        have hsn : p < s.n := by rw [hB.n]; exact hnear
        by_cases hlt : 0 < j
        · obtain ⟨j, rfl⟩ : ∃ m, j = m + 1 := ⟨j - 1, by omega⟩
          have hN := pins_calls b p s wr hst
          rw [hpc] at hN
          have hD : ∀ w', Chg [] wr w' → Calls Try.prog 10 #[.pointer (some ⟨b, 0, none⟩), .int .u64 p] w' (Res w' [] (.int .i64 51)) := fun w' h' => drop_pin b p s w' (hst.chg0 h') (by omega) hsn (by omega)
          have hU := fun (w' : World) (h' : Chg [] wr w') => unpin_ok b p s w' (hst.chg0 h') (by omega) hsn (by omega)
          have HP := Lib.hid hpc
          clear hpc h0
          go_wp2_with (first
            | (go_at_call 15; refine hN.mono ?_; rintro e w2 ⟨rfl, c2⟩)
            | (go_at_call 10; refine (hD _ c2).mono ?_; rintro e w3 ⟨rfl, c3⟩; have d3 := c2.nil_trans c3)
            | (go_at_call 20; refine (hU _ d3).mono ?_; rintro e w4 hh; obtain ⟨rfl, hinv⟩ := PinInv.unpin hB HP.out (hc.nil_trans d3) hf hh))
          go_roundg j
          case measure => omega
          case rel => exact ⟨j, by omega, rfl, by go_num, hinv⟩
        · obtain rfl : j = 0 := by omega
          have hN := pins_calls b p s wr hst
          rw [hpc] at hN
          have hE := hB.getE hnear
          have hn : s.node p = some hs[p] := by rw [hB.node, if_pos hnear, List.getElem?_eq_getElem hnear]
          have hU : ∀ w', Chg [] wr w' → Calls Try.prog 20 #[.pointer (some ⟨b, 0, none⟩), .int .u64 p] w' (Res w' [] (.int .i64 52)) := fun w' h' => unpin_none b p s w' (hst.chg0 h') (by omega) hsn hpc
          have hL : ∀ w', Chg [] wr w' → Calls Try.prog 12 #[.pointer (some ⟨b, 0, none⟩), .int .u64 p] w' (Res w' [] (.bool true)) := by
            intro w' h'
            have := live_calls b p s w' (hst.chg0 h') (by omega)
            rw [hE] at this
            exact this
          have hD := fun (w' : World) (h' : Chg [] wr w') => drop_live b p s w' (hst.chg0 h') (by omega) hpc hn
          have hL2 : ∀ s' w', StIs w' b s' → PutRel s s' p none (s.alive - 1) → Calls Try.prog 12 #[.pointer (some ⟨b, 0, none⟩), .int .u64 p] w' (Res w' [] (.bool false)) := by
            intro s' w' h' hr'
            have := live_calls b p s' w' h' (by omega)
            have hE2 : s'.getE p = 50 := by unfold SS.getE; rw [hr'.n, if_pos hsn, hr'.node, if_pos rfl]; rfl
            rw [hE2] at this
            exact this
          clear hpc h0 hE hn hB
          go_wp2_with (first
            | (go_at_call 15; refine hN.mono ?_; rintro e w2 ⟨rfl, c2⟩)
            | (go_at_call 20; refine (hU _ c2).mono ?_; rintro e w3 ⟨rfl, c3⟩; have d3 := c2.nil_trans c3)
            | (go_at_call 12; refine (hL _ d3).mono ?_; rintro e w4 ⟨rfl, c4⟩; have d4 := d3.nil_trans c4; clear hL)
            | (go_at_call 10; refine (hD _ d4).mono ?_; rintro e w5 ⟨rfl, s', hst', hrel', hmv'⟩; have d5 := (hc.nil_trans d4).trans hmv'.1 (by intro x hx; right; exact hf x hx))
            | (go_at_call 12; refine (hL2 _ _ hst' hrel').mono ?_; rintro e w6 ⟨rfl, c6⟩; have d6 := d5.nil_trans c6)
            | (go_at_call 19; refine (awake_calls _).mono ?_; rintro e w7 ⟨rfl, c7⟩; have d7 := d6.nil_trans c7))
          go_ret
          exact ⟨rfl, d7⟩
end Go.Proofs.Ytgmkmcaekolagaa

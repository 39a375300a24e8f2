/- fill and awake of the store's statements. -/
import Derived.Test.YtonppfebmeehcaaStM
import Derived.Test.YtonppfebmeehcaaHashEq
namespace Go.Proofs.Ytonppfebmeehcaa
open Go.RowKit
set_option linter.unusedVariables false
set_option linter.unusedSimpArgs false

structure Filled (s : SS) (log : Nat) (hs : List (Array Value)) (k : Nat) : Prop where
  log : s.log = log
  n : s.n = k
  alive : s.alive = k
  pins : s.pins = []
  node : ∀ q, s.node q = if q < k then hs[q]? else none

def FillInv (w : World) (b log : Nat) (hs : List (Array Value)) (k : Nat) (wr : World) : Prop :=
  ∃ s, StIs wr b s ∧ Filled s log hs k ∧ Chg [] w wr ∧ ∀ x ∈ s.foot b, w.heap.size ≤ x
def FillP (w : World) (log : Nat) (hs : List (Array Value)) (e : Ending) (w' : World) : Prop :=
  ∃ b, e = .returned (.tuple #[.pointer (some ⟨b, 0, none⟩), .bool true]) ∧ FillInv w b log hs hs.length w'

theorem FillInv.zero {w w1 : World} {b log : Nat} {hs : List (Array Value)} {s : SS} (h1 : StIs w1 b s) (h2 : Chg [] w w1) (h3 : ∀ k ∈ s.foot b, w.heap.size ≤ k) (h4 : s.log = log) (h5 : s.n = 0) (h6 : s.cks = []) (h7 : s.pins = []) : FillInv w b log hs 0 w1 :=
  ⟨s, h1, ⟨h4, h5, by simp [SS.alive, h6], h7, fun q => by simp [SS.node, SS.look, h6]⟩, h2, h3⟩

theorem FillInv.push {w wr w' : World} {b log k : Nat} {hs : List (Array Value)} {s : SS} {h : Array Value} {e : Ending} (hs1 : Filled s log hs k) (hc : Chg [] w wr) (hf : ∀ x ∈ s.foot b, w.heap.size ≤ x) (hk : hs[k]? = some h) (hp : PushP wr b s h e w') :
    e = .returned (.int .u64 k) ∧ FillInv w b log hs (k + 1) w' := by
  obtain ⟨he, s', h1, h2, h3⟩ := hp
  refine ⟨by rw [he, hs1.n], s', h1, ⟨h2.log.trans hs1.log, by rw [h2.n]; simp [hs1.n], by rw [h2.alive, hs1.alive], h2.pins.trans hs1.pins, ?_⟩, ?_, ?_⟩
  · intro q
    rw [h2.node q, hs1.n]
    have e1 : ({ s with n := k + 1 } : SS).node q = s.node q := rfl
    by_cases e : q = k
    · subst e; rw [if_pos rfl, if_pos (by omega), hk]
    · rw [if_neg e]
      show s.node q = _
      rw [hs1.node q]
      by_cases hq : q < k
      · rw [if_pos hq, if_pos (by omega)]
      · rw [if_neg hq, if_neg (by omega)]
  · exact hc.trans h3.1 (by intro x hx; right; exact hf x hx)
  · intro x hx
    rcases h3.2 x hx with q | q
    · exact hf x q
    · have := hc.size; omega

set_option maxRecDepth 100000 in
theorem fill_calls (log : Nat) (v : Value) (hs : List (Array Value)) (w : World) (hl : log ≤ 16) (hlen : hs.length ≤ 200) (hv : HsIs w v hs) :
    Calls Try.prog 23 #[.int .i64 log, v] w (FillP w log hs) := by
  obtain ⟨hI, a, cap, rfl, hr⟩ := hv
  have hnew := new_ok log w hl
  go_enter Try.func23, Try.ntmps23
  go_wp2_with (go_at_call 35; refine hnew.mono ?_; rintro e w1 ⟨b, s, rfl, h1, h2, h3, h4, h5, h6, h7⟩)
  have h0 := FillInv.zero (hs := hs) h1 h2 h3 h4 h5 h6 h7
  clear h1 h2 h3 h4 h5 h6 h7 hnew
  go_loopw [8] (fun i wr => ∃ k : Nat, k ≤ hs.length ∧ i = .int .i64 k ∧ FillInv w b log hs k wr) (fun i _ => hs.length - (intOf i).toNat)
  case atStart => exact ⟨0, Nat.zero_le _, rfl, h0⟩
  case round =>
    obtain ⟨k, hk, rfl, s, hst, hfl, hc, hf⟩ := hrel
    by_cases hlt : k < hs.length
    · rcases hr with hr | ⟨ab, ao, rfl, hab, hr⟩
      · subst hr; simp at hlt
      have hh := hI hs[k] (List.getElem_mem hlt)
      have hg := rng?_chg hc (hr k hlt) (by omega) (by simp)
      have hpush := push_calls b s hs[k] wr hst hh (by rw [hfl.n]; omega) (by rw [hfl.alive]; omega)
      have hgk : hs[k]? = some hs[k] := List.getElem?_eq_getElem hlt
      generalize hs[k] = h at *
      have HG := Lib.hid hgk
      clear hgk hr h0 hI hh
      go_wp2_with (go_at_call 33; refine hpush.mono ?_; rintro e w2 hp; obtain ⟨rfl, hinv⟩ := FillInv.push hfl hc hf HG.out hp)
      go_roundw
      case rel => exact ⟨k + 1, by omega, by go_num, hinv⟩
      case measure => simp [intOf]; omega
    · obtain rfl : k = hs.length := by omega
      go_wp2
      go_ret2
      exact ⟨b, rfl, s, hst, hfl, hc, hf⟩
end Go.Proofs.Ytonppfebmeehcaa

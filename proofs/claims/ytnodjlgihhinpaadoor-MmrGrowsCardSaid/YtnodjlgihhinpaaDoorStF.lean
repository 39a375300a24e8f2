/- The store: Get, Live, Len, Alive, Chunks, Pins. -/
import Derived.Test.YtnodjlgihhinpaaDoorStB
namespace Go.Proofs.YtnodjlgihhinpaaDoor
open Go.RowKit
set_option linter.unusedVariables false
set_option linter.unusedSimpArgs false

def SS.getH (s : SS) (p : Nat) : Array Value := if p < s.n then (s.node p).getD zeroHash else zeroHash
def SS.getE (s : SS) (p : Nat) : Int := if p < s.n then (if (s.node p).isSome then 0 else 50) else 31

theorem node_ptr {w : World} {b p : Nat} {s : SS} {h : Array Value} (hst : StIs w b s) (hn : s.node p = some h) : ∃ g o, s.fptr p = some ⟨g, o, none⟩ ∧ rng? w g o 32 = some h ∧ IsHash h := by
  unfold SS.node at hn
  rw [Option.bind_eq_some_iff] at hn
  obtain ⟨x, hx, hxn⟩ := hn
  obtain ⟨hxm, _⟩ := look_mem hx
  have hck := hst.2.2.2.1 x hxm
  have hlt : qa s.log p < x.ns.length := by
    by_cases hq : qa s.log p < x.ns.length
    · exact hq
    · rw [List.getElem?_eq_none (by omega)] at hxn; cases hxn
  have hg : x.ns.getD (qa s.log p) none = some h := by
    rw [List.getElem?_eq_getElem hlt] at hxn
    simpa [List.getD_eq_getElem?_getD, List.getElem?_eq_getElem hlt] using hxn
  have hh : IsHash h := by
    refine hck.2.2.1 h ?_
    rw [List.getElem?_eq_getElem hlt] at hxn
    have : x.ns[qa s.log p] = some h := by simpa using hxn
    rw [← this]; exact List.getElem_mem hlt
  refine ⟨x.nb, qa s.log p * 33, ?_, ?_, hh⟩
  · unfold SS.fptr
    rw [hx]
    simp [hxn]
  · refine rng?_mk hh.1 ?_
    intro j hj
    refine hck.cell hlt (by have := hh.1; omega) ?_
    rw [hg]
    unfold nodeCells
    simp only
    rw [List.getElem?_append_left (by simpa using hj)]
    simp [hj]

theorem node_nil {p : Nat} {s : SS} (hn : s.node p = none) : s.fptr p = none := by
  unfold SS.node at hn
  unfold SS.fptr
  cases hx : s.look p with
  | none => rfl
  | some x =>
    rw [hx] at hn
    simp only [Option.bind_some] at hn ⊢
    rw [hn]
    rfl

theorem get_calls (b p : Nat) (s : SS) (w : World) (hst : StIs w b s) (hp : p < 18446744073709551616) :
    Calls Tryd.prog 31 #[.pointer (some ⟨b, 0, none⟩), .int .u64 p] w (Res w [] (.tuple #[.agg (s.getH p), .int .i64 (s.getE p)])) := by
  have hb := hst.blt
  have hc1 := hst.cell1
  by_cases hlt : p < s.n
  · cases hn : s.node p with
    | none =>
      have hf := Lib.hid (node_nil hn)
      have e1 : Hid (s.getH p = zeroHash) := by unfold Hid SS.getH; rw [if_pos hlt, hn]; rfl
      have e2 : Hid (s.getE p = 50) := by unfold Hid SS.getE; rw [if_pos hlt, hn]; rfl
      clear hn
      go_enter Tryd.func31, Tryd.ntmps31
      go_wp2_with (go_at_call 53; refine (find_calls b p s _ (hst.chg0 ((Chg.refl _ _).alloc _)) hp).mono ?_; rintro e w1 ⟨rfl, hc⟩; rw [hf.out]; have hm1 := may_chg hc (may_alloc_at w w.heap.size 32 zeroHash 37 rfl zeroHash_size) (by omega) (by simp))
      refine bodyPost_ret (res_Hash2 rfl _ _ rfl (rng?_setRng_same _ _ _ _ _ hm1 zeroHash_size)) rfl ⟨by rw [e1.out, e2.out]; rfl, ?_⟩
      exact (((Chg.refl _ _).alloc _).nil_trans hc).setRng (by simp) _ _
    | some h =>
      obtain ⟨g, o, hfp, hrg, hh⟩ := node_ptr hst hn
      have hf := Lib.hid hfp
      have e1 : Hid (s.getH p = h) := by unfold Hid SS.getH; rw [if_pos hlt, hn]; rfl
      have e2 : Hid (s.getE p = 0) := by unfold Hid SS.getE; rw [if_pos hlt, hn]; rfl
      have hsz := hh.1
      have hone := hh.one
      have hrw : ∀ w1, Chg [] w w1 → rng? w1 g o 32 = some h := fun w1 hc => rng?_chg hc hrg (by omega) (by simp)
      clear hn hfp hh
      go_enter Tryd.func31, Tryd.ntmps31
      go_wp2_with (go_at_call 53; refine (find_calls b p s _ (hst.chg0 ((Chg.refl _ _).alloc _)) hp).mono ?_; rintro e w1 ⟨rfl, hc⟩; rw [hf.out]; have hm1 := may_chg hc (may_alloc_at w w.heap.size 32 zeroHash 37 rfl zeroHash_size) (by omega) (by simp); have hr1 := hrw w1 (((Chg.refl _ _).alloc _).nil_trans hc); clear hrw)
      refine bodyPost_ret (res_Hash2 rfl _ _ rfl (rng?_setRng_same _ _ _ _ _ hm1 hsz)) rfl ⟨by rw [e1.out, e2.out]; rfl, ?_⟩
      exact (((Chg.refl _ _).alloc _).nil_trans hc).setRng (by simp) _ _
  · have e1 : Hid (s.getH p = zeroHash) := by unfold Hid SS.getH; rw [if_neg hlt]
    have e2 : Hid (s.getE p = 31) := by unfold Hid SS.getE; rw [if_neg hlt]
    go_enter Tryd.func31, Tryd.ntmps31
    go_wp2
    refine bodyPost_ret (res_Hash2 rfl _ _ rfl (rng?_alloc_at _ _ _ _ _ rfl zeroHash_size)) rfl ⟨by rw [e1.out, e2.out]; rfl, ?_⟩
    exact (Chg.refl _ _).alloc _
end Go.Proofs.YtnodjlgihhinpaaDoor

/- The store: small readers, pins, New. -/
import Derived.Test.YtgmkmcaekolagaaStF
namespace Go.Proofs.Ytgmkmcaekolagaa
open Go.RowKit

theorem IsHash.getH {w : World} {b : Nat} {s : SS} (hst : StIs w b s) (p : Nat) : IsHash (s.getH p) := by
  unfold SS.getH
  split
  · cases hn : s.node p with
    | none => exact zeroHash_is
    | some h => obtain ⟨_, _, _, _, hh⟩ := node_ptr hst hn; exact hh
  · exact zeroHash_is

theorem len_calls (b : Nat) (s : SS) (w : World) (hst : StIs w b s) : Calls Try.prog 18 #[.pointer (some ⟨b, 0, none⟩)] w (Res w [] (.int .u64 s.n)) := by
  have hc := hst.cell1
  go_enter Try.func18, Try.ntmps18
  go_wp2
  go_ret
  exact ⟨rfl, Chg.refl _ _⟩
theorem alive_calls (b : Nat) (s : SS) (w : World) (hst : StIs w b s) : Calls Try.prog 16 #[.pointer (some ⟨b, 0, none⟩)] w (Res w [] (.int .u64 s.alive)) := by
  have hc := hst.cell2
  go_enter Try.func16, Try.ntmps16
  go_wp2
  go_ret
  exact ⟨rfl, Chg.refl _ _⟩
theorem chunks_calls (b : Nat) (s : SS) (w : World) (hst : StIs w b s) : Calls Try.prog 17 #[.pointer (some ⟨b, 0, none⟩)] w (Res w [] (.int .i64 s.cks.length)) := by
  have hc := hst.cell3
  have hl : ∀ ty, (Builtin.len_ #[60] ty #[.map (some s.cm)]).run Try.prog w = .ok (.int .i64 s.cks.length) w := by
    intro ty
    have := hst.2.1.len u_mapc ty
    rw [this, List.length_map]
  go_enter Try.func17, Try.ntmps17
  go_wp2
  go_ret
  exact ⟨rfl, Chg.refl _ _⟩
theorem live_calls (b p : Nat) (s : SS) (w : World) (hst : StIs w b s) (hp : p < 18446744073709551616) :
    Calls Try.prog 12 #[.pointer (some ⟨b, 0, none⟩), .int .u64 p] w (Res w [] (.bool (s.getE p == 0))) := by
  have hb := hst.blt
  have hg := IsHash.getH hst p
  have hs1 := hg.1
  have hs2 := hg.one
  have hget := get_calls b p s w hst hp
  generalize s.getH p = H at *
  generalize s.getE p = E at *
  clear hg
  go_enter Try.func12, Try.ntmps12
  go_wp2_with (go_at_call 14; refine hget.mono ?_; rintro e w1 ⟨rfl, hc⟩)
  go_ret
  exact ⟨rfl, hc.alloc _⟩
theorem lookp {w : World} {b : Nat} {s : SS} (h : StIs w b s) (p : Nat) : (Instr.lookup 61 (.map (some s.pm)) (.int .u64 p) false).run Try.prog w = .ok (.int .i64 (s.pin p)) w := by
  have := h.2.2.1.look encU_law u_mapp z_int p false
  rw [mget_map] at this
  unfold encU at this
  rw [this]
  unfold SS.pin
  cases s.pins.find? fun x => decide (x.1 = p) <;> rfl
theorem pins_calls (b p : Nat) (s : SS) (w : World) (hst : StIs w b s) : Calls Try.prog 15 #[.pointer (some ⟨b, 0, none⟩), .int .u64 p] w (Res w [] (.int .i64 (s.pin p))) := by
  have hc := hst.cell4
  have hl := lookp hst p
  go_enter Try.func15, Try.ntmps15
  go_wp2
  go_ret
  exact ⟨rfl, Chg.refl _ _⟩

theorem new_bad (l : Int) (w : World) (h : l < 0 ∨ 16 < l) : Calls Try.prog 25 #[.int .i64 l] w (Res w [] (.tuple #[.pointer none, .int .i64 1])) := by
  by_cases h0 : l < 0
  · go_enter Try.func25, Try.ntmps25
    go_wp2
    go_ret2
    exact ⟨rfl, Chg.refl _ _⟩
  · have h1 : 16 < l := by omega
    go_enter Try.func25, Try.ntmps25
    go_wp2
    go_ret2
    exact ⟨rfl, Chg.refl _ _⟩
def NewPost (w : World) (l : Nat) (e : Ending) (w' : World) : Prop :=
  ∃ b s, e = .returned (.tuple #[.pointer (some ⟨b, 0, none⟩), .int .i64 0]) ∧ StIs w' b s ∧ Chg [] w w' ∧ (∀ k ∈ s.foot b, w.heap.size ≤ k) ∧ s.log = l ∧ s.n = 0 ∧ s.cks = [] ∧ s.pins = []
theorem new_ok (l : Nat) (w : World) (h : l ≤ 16) : Calls Try.prog 25 #[.int .i64 l] w (NewPost w l) := by
  have hmm := @run_makeMap Try.prog
  go_enter Try.func25, Try.ntmps25
  go_wp2
  go_ret2
  refine ⟨_, ⟨l, 0, w.heap.size, w.heap.size + 1, [], []⟩, rfl, ?_, (((Chg.refl _ _).alloc _).alloc _).alloc _, ?_, rfl, rfl, rfl, rfl⟩
  · have h1 := blk_new w (.map #[] 0)
    have h2 := blk_new (w.alloc (.map #[] 0)) (.map #[] 0)
    refine ⟨?_, ?_, ?_, by simp, ⟨by simp; omega, by simp, by simp⟩, ⟨h, by simp, by simp, by simp, by simp [SS.node, SS.look], by simp [SS.alive]⟩⟩
    · have h3 := blk_new ((w.alloc (.map #[] 0)).alloc (.map #[] 0)) (.cells #[.int .i64 l, .int .u64 0, .int .u64 0, .map (some w.heap.size), .map (some (w.heap.size + 1))] 63)
      simpa [SS.alive] using h3
    · exact ((MapIs.new encK w).chg ((Chg.refl [] _).alloc _) (by simp)).chg ((Chg.refl [] _).alloc _) (by simp)
    · have h3 := (MapIs.new encU (w.alloc (.map #[] 0))).chg ((Chg.refl [] _).alloc (.cells #[.int .i64 l, .int .u64 0, .int .u64 0, .map (some w.heap.size), .map (some (w.heap.size + 1))] 63)) (by simp)
      simpa using h3
  · intro k hk
    simp [SS.foot] at hk
    omega
end Go.Proofs.Ytgmkmcaekolagaa

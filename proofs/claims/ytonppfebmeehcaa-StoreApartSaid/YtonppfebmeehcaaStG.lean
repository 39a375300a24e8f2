/- The store: small readers, pins, New. -/
import Derived.Test.YtonppfebmeehcaaStNew
namespace Go.Proofs.Ytonppfebmeehcaa
open Go.RowKit
set_option linter.unusedVariables false
set_option linter.unusedSimpArgs false

theorem len_calls (b : Nat) (s : SS) (w : World) (hst : StIs w b s) : Calls Try.prog 27 #[.pointer (some ⟨b, 0, none⟩)] w (Res w [] (.int .u64 s.n)) := by
  have hc := hst.cell1
  go_enter Try.func27, Try.ntmps27
  go_wp2
  go_ret
  exact ⟨rfl, Chg.refl _ _⟩
theorem alive_calls (b : Nat) (s : SS) (w : World) (hst : StIs w b s) : Calls Try.prog 25 #[.pointer (some ⟨b, 0, none⟩)] w (Res w [] (.int .u64 s.alive)) := by
  have hc := hst.cell2
  go_enter Try.func25, Try.ntmps25
  go_wp2
  go_ret
  exact ⟨rfl, Chg.refl _ _⟩
theorem chunks_calls (b : Nat) (s : SS) (w : World) (hst : StIs w b s) : Calls Try.prog 30 #[.pointer (some ⟨b, 0, none⟩)] w (Res w [] (.int .i64 s.cks.length)) := by
  have hc := hst.cell3
  have hl : ∀ ty, (Builtin.len_ #[77] ty #[.map (some s.cm)]).run Try.prog w = .ok (.int .i64 s.cks.length) w := by
    intro ty
    have := hst.2.1.len u_mapc ty
    rw [this, List.length_map]
  go_enter Try.func30, Try.ntmps30
  go_wp2
  go_ret
  exact ⟨rfl, Chg.refl _ _⟩
theorem live_calls (b p : Nat) (s : SS) (w : World) (hst : StIs w b s) (hp : p < 18446744073709551616) :
    Calls Try.prog 29 #[.pointer (some ⟨b, 0, none⟩), .int .u64 p] w (Res w [] (.bool (s.getE p == 0))) := by
  have hb := hst.blt
  have hg := IsHash.getH hst p
  have hs1 := hg.1
  have hs2 := hg.one
  have hget := get_calls b p s w hst hp
  generalize s.getH p = H at *
  generalize s.getE p = E at *
  clear hg
  go_enter Try.func29, Try.ntmps29
  go_wp2_with (go_at_call 28; refine hget.mono ?_; rintro e w1 ⟨rfl, hc⟩)
  go_ret
  exact ⟨rfl, hc.alloc _⟩
theorem lookp {w : World} {b : Nat} {s : SS} (h : StIs w b s) (p : Nat) : (Instr.lookup 78 (.map (some s.pm)) (.int .u64 p) false).run Try.prog w = .ok (.int .i64 (s.pin p)) w := by
  have := h.2.2.1.look encU_law u_mapp z_int p false
  rw [mget_map] at this
  unfold encU at this
  rw [this]
  unfold SS.pin
  cases s.pins.find? fun x => decide (x.1 = p) <;> rfl
theorem pins_calls (b p : Nat) (s : SS) (w : World) (hst : StIs w b s) : Calls Try.prog 73 #[.pointer (some ⟨b, 0, none⟩), .int .u64 p] w (Res w [] (.int .i64 (s.pin p))) := by
  have hc := hst.cell4
  have hl := lookp hst p
  go_enter Try.func73, Try.ntmps73
  go_wp2
  go_ret
  exact ⟨rfl, Chg.refl _ _⟩

end Go.Proofs.Ytonppfebmeehcaa

/- The store's small functions: contracts. -/
import Derived.Test.YtnodjlgihhinpaaDoorSt
import Derived.Lib.Hide
namespace Go.Proofs.YtnodjlgihhinpaaDoor
open Go.RowKit
set_option linter.unusedVariables false
set_option linter.unusedSimpArgs false

theorem and_mask (p log : Nat) (hl : log ≤ 16) (hp : p < 18446744073709551616) :
    wrap64 (bits BinOp.and IntKind.u64 (p : Int) (IntKind.u64.wrap (IntKind.u64.wrap (2 ^ log) - 1))) = ((p % 2 ^ log : Nat) : Int) := by
  have h1 : (2 ^ log : Nat) ≤ 65536 := by
    calc 2 ^ log ≤ 2 ^ 16 := Nat.pow_le_pow_right (by omega) hl
      _ = 65536 := by decide
  have h0 : 0 < (2 ^ log : Nat) := Nat.two_pow_pos _
  have h2 : ((2 : Int) ^ log) = ((2 ^ log : Nat) : Int) := by simp
  have hw : ∀ n : Int, 0 ≤ n → n < 2 ^ 64 → IntKind.u64.wrap n = n := fun n a b => by rw [IntKind.wrap_u64]; omega
  have e1 : IntKind.u64.wrap ((2 : Int) ^ log) = 2 ^ log := hw _ (by omega) (by omega)
  have e2 : IntKind.u64.wrap ((2 : Int) ^ log - 1) = 2 ^ log - 1 := hw _ (by omega) (by omega)
  rw [e1, e2, bits_mask .u64 64 (by decide) hw log (by omega) p (by omega) (by omega)]
  have h3 : (p : Int) % 2 ^ log = ((p % 2 ^ log : Nat) : Int) := by simp
  rw [h3]
  have h4 : p % 2 ^ log < 2 ^ log := Nat.mod_lt _ h0
  unfold wrap64
  omega

theorem spot_calls (b log p : Nat) (w : World) (hl : log ≤ 16) (hp : p < 18446744073709551616) (hb : b < w.heap.size) (hc : w.cell? ⟨b, 0, none⟩ = some (.int .i64 log)) :
    Calls Tryd.prog 86 #[.pointer (some ⟨b, 0, none⟩), .int .u64 p] w
      (Res w [] (.tuple #[.agg #[.int .u64 (qk log p)], .int .i64 (qa log p)])) := by
  unfold qk qa
  have hm := Lib.hid (and_mask p log hl hp)
  have hd : Hid ((p : Int) / 2 ^ log = ((p / 2 ^ log : Nat) : Int)) := by simp [Hid]
  go_enter Tryd.func86, Tryd.ntmps86
  go_wp2
  go_region
  all_goals go_wp2
  refine bodyPost_ret (v := .tuple #[.agg #[.int .u64 ((p / 2 ^ log : Nat) : Int)], .int .i64 ((p % 2 ^ log : Nat) : Int)]) ?_ rfl ⟨rfl, ?_⟩
  · rw [← hd.out, ← hm.out]
    simp [results, Tryd.results86, go_sem]
  · exact ((Chg.refl _ _).alloc _).drew
end Go.Proofs.YtnodjlgihhinpaaDoor

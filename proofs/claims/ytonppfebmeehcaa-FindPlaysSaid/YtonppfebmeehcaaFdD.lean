/- A find: Leaf walked. -/
import Derived.Test.YtonppfebmeehcaaFdC
import Derived.Test.YtonppfebmeehcaaStF
namespace Go.Proofs.Ytonppfebmeehcaa
open Go.RowKit
set_option linter.unusedVariables false
set_option linter.unusedSimpArgs false

theorem dLeaf_far (w : World) (b : Nat) (f : FS) (h : FdIs w b f) (hl : f.ls.length ≤ 100000) (i : Nat) (hi : f.ls.length ≤ i) (hi2 : i < 18446744073709551616) : Calls Try.prog 15 #[.pointer (some ⟨b, 0, none⟩), .int .u64 i] w (Res w [] (.tuple #[.agg zeroHash, .int .i64 32])) := by
  have hsz := dSize_calls _ b f (h.chg0 ((Chg.refl [] w).alloc (.cells zeroHash 30))) (by omega)
  clear h
  go_enter Try.func15, Try.ntmps15
  go_wp2_with (go_at_call 22; refine hsz.mono ?_; rintro e w3 ⟨rfl, hw3⟩; obtain rfl : _ = w3 := hw3.symm)
  refine bodyPost_ret (res_Hash2 rfl _ _ rfl (rng?_alloc_at _ _ _ _ _ rfl zeroHash_size)) rfl ⟨rfl, ?_⟩
  exact (Chg.refl _ _).alloc _
end Go.Proofs.Ytonppfebmeehcaa

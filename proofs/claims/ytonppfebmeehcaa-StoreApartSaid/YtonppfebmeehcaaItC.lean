/- The comparison of All's keys. -/
import Derived.Test.YtonppfebmeehcaaSt
import Derived.Shelf.SlSortCmp.InsertionK
namespace Go.Proofs.Ytonppfebmeehcaa
open Go.RowKit Go.Shelf Go.Sort
set_option linter.unusedVariables false
set_option linter.unusedSimpArgs false
def cfK (x y : Nat) : Int := if x < y then -1 else 1
def encKs (x : Nat) : List Value := [.int .u64 (x : Nat)]
theorem cmpK_calls (x y : Nat) (W : World) : Calls Try.prog 69 #[.agg #[.int .u64 (x : Nat)], .agg #[.int .u64 (y : Nat)]] W fun e w' => e = .returned (.int .i64 (cfK x y)) ∧ ∃ q os', w' = grow (W.drewN q) os' := by
  by_cases h : x < y
  · have hc := Lib.hid (show cfK x y = -1 from if_pos h)
    go_enter Try.func69, Try.ntmps69
    go_wp2
    go_ret
    exact ⟨by rw [hc.out]; rfl, 0, _, by rw [alloc_eq_grow, alloc_eq_grow, grow_grow]; rfl⟩
  · have hc := Lib.hid (show cfK x y = 1 from if_neg h)
    go_enter Try.func69, Try.ntmps69
    go_wp2
    go_ret
    exact ⟨by rw [hc.out]; rfl, 0, _, by rw [alloc_eq_grow, alloc_eq_grow, grow_grow]; rfl⟩
theorem cmpK_lays (blk size : Nat) (w : World) : CmpLays Try.prog 69 #[] encKs 1 cfK blk 0 size w := fun _ _ _ _ x y => cmpK_calls x y _
theorem ltK (x y : Nat) : ltOf cfK x y = decide (x < y) := by
  unfold ltOf cfK
  by_cases h : x < y <;> simp [h]
theorem swoK : SWO (ltOf cfK) where
  irrefl x := by rw [ltK]; simp
  trans x y z h1 h2 := by rw [ltK] at *; simp at *; omega
  ntrans x y z h1 h2 := by rw [ltK] at *; simp at *; omega
end Go.Proofs.Ytonppfebmeehcaa

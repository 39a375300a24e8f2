/- MmrOld for all inputs. -/
import Derived.Test.YtogkfjljdmbogaaDoorLwOld
import Derived.Test.YtogkfjljdmbogaaDoorLwAw
namespace Go.Proofs.YtogkfjljdmbogaaDoor
open Go.RowKit
set_option linter.unusedVariables false
set_option linter.unusedSimpArgs false

set_option maxRecDepth 100000 in
theorem old_row (w : World) (wd : Int) (hwd : -9223372036854775808 ≤ wd ∧ wd < 9223372036854775808) (lv : Value) (ls : List (Array Value)) (hv : HsIs w lv ls) (hk : HIs w) :
    Calls Tryd.prog 5 #[.int .i64 wd, lv] w (Res w [] (.bool true)) := by
  by_cases h : ls.length ≤ 200
  · exact old_walk w wd hwd lv ls hv h hk (fun W hW => awake_calls W hW)
  · obtain ⟨hI, a, cap, rfl, hr⟩ := hv
    have hgt : decide ((200 : Int) < (ls.length : Int)) = true := decide_eq_true (by omega)
    clear hr
    go_enter Tryd.func5, Tryd.ntmps5
    go_wp2
    go_ret
    exact ⟨rfl, Chg.refl _ _⟩
end Go.Proofs.YtogkfjljdmbogaaDoor

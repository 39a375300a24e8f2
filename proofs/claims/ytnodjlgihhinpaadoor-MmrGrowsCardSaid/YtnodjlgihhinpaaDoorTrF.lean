/- A tree: Old, Size. -/
import Derived.Test.YtnodjlgihhinpaaDoorTrE
namespace Go.Proofs.YtnodjlgihhinpaaDoor
open Go.RowKit
set_option linter.unusedVariables false
set_option linter.unusedSimpArgs false

def OldP (w : World) (t : TS) (n : Nat) (e : Ending) (w' : World) : Prop :=
  ((∀ p ∈ peaksN n, t.s.getE p = 0) ∧ Res w [] (.tuple #[.agg (bagR t.wd n ((peaksN n).map t.s.getH)), .int .i64 (bagE n ((peaksN n).map t.s.getH))]) e w') ∨
  (∃ (i : Nat) (h : i < (peaksN n).length), (∀ j (hj : j < i), t.s.getE (peaksN n)[j] = 0) ∧ t.s.getE (peaksN n)[i] ≠ 0 ∧ Res w [] (.tuple #[.agg zeroHash, .int .i64 (t.s.getE (peaksN n)[i])]) e w')
theorem tSize_calls (w : World) (b : Nat) (t : TS) (ht : TrIs w b t) : Calls Tryd.prog 27 #[.pointer (some ⟨b, 0, none⟩)] w (Res w [] (.int .u64 t.size)) := by
  have c2 := blk_cell ht.mem 2 rfl
  have hb := blk_lt ht.mem
  go_enter Tryd.func27, Tryd.ntmps27
  go_wp2
  go_ret
  exact ⟨rfl, Chg.refl _ _⟩
end Go.Proofs.YtnodjlgihhinpaaDoor

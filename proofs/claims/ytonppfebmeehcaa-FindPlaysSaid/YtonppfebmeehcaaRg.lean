/- A region that draws its order, reads, and holds calls that make memory: walked once, in the order of the text. Nothing of a program. -/
import Derived.Test.YtonppfebmeehcaaRng
import Derived.Lib.QuietBelow
namespace Go.Proofs.Ytonppfebmeehcaa
open Go.RowKit Go.Sort
set_option linter.unusedVariables false
set_option linter.unusedSimpArgs false
theorem chg_regrown (w : World) (d : Nat) (os : Array Obj) : Chg [] w (grow (redrawn w d) os) := Chg.of_below (below_regrown w d os)
section
variable (w : World) (d : Nat) (os : Array Obj)
@[go_sem] theorem cell?_regrown (a : Addr) (h : a.block < w.heap.size) : (grow (redrawn w d) os).cell? a = w.cell? a := (chg_regrown w d os).cell h (by simp)
@[go_sem] theorem frozen?_regrown (a : Addr) (h : a.block < w.heap.size) : (grow (redrawn w d) os).frozen? a = w.frozen? a := (chg_regrown w d os).frozen h (by simp)
@[go_sem] theorem rng?_regrown (b o n : Nat) (h : b < w.heap.size) : rng? (grow (redrawn w d) os) b o n = rng? w b o n := rng?_congr fun j _ => cell?_regrown w d os ⟨b, o + j, none⟩ h
end
theorem rg_of {P : Program} {f : FuncId} {args : Array Value} {w : World} {v : Value} (h : ∀ W, Chg [] w W → Calls P f args W (Res W [] v)) (d : Nat) (os : Array Obj) :
    Calls P f args (grow (redrawn w d) os) fun e w'' => e = .returned v ∧ ∃ p : Regrown, w'' = grow (redrawn w p.d) p.os :=
  (h _ (chg_regrown w d os)).mono fun _ _ ⟨he, hc⟩ => ⟨he, regrown_of_below ((chg_regrown w d os).nil_trans hc).below⟩
end Go.Proofs.Ytonppfebmeehcaa

/- Lists of Booleans that came in. -/
import Derived.Test.YtfmdghijbkddpaaNumsI
namespace Go.Proofs.Ytfmdghijbkddpaa
open Go.ChangeShapes Go.WideShapes Go.ChangeAt Go.RowKit
set_option linter.unusedVariables false
set_option linter.unusedSimpArgs false

/-- A list of Booleans that came in. -/
def BsIs (w : World) (v : Value) (ns : List Bool) : Prop :=
  ∃ a cap, v = .slice a ns.length cap ∧ (ns = [] ∨ ∃ b o, a = some ⟨b, o, none⟩ ∧ b < w.heap.size ∧ ∀ i (hi : i < ns.length), w.cell? ⟨b, o + i, none⟩ = some (.bool ns[i]))
section
variable {H : Type} {enc : TypeId × Value → H} {W : World} {base : Nat} {spare : Nat → Bool} {held : Bool}
theorem open_bools {t e : TypeId} (ht : Try.prog.underlying t = some (.slice e)) (he : Try.prog.underlying e = some .bool) (hc : Try.prog.cellsOf e = 1) {fuel : Nat} {a : Option Addr} {len cap : Nat} {x : DataW H × List MemPlace} (h : DataW.trod enc Try.prog W base spare held fuel t [.slice a len cap] = some x) : ∃ ns, BsIs W (.slice a len cap) ns := by
  rcases Deep.open_slice1 ht hc h with ⟨hc, _⟩ | ⟨a', len', cap', m, n, V, D, Pl, hcs, _, hle, _, hm, _, hx⟩
  · simp at hc
    obtain ⟨rfl, rfl, rfl⟩ := hc
    exact ⟨[], none, 0, rfl, .inl rfl⟩
  · simp at hcs
    obtain ⟨rfl, rfl, rfl⟩ := hcs
    have hlm : len ≤ m := by rw [hm]; split <;> omega
    obtain ⟨f, hf⟩ := Deep.choose_lt (α := Bool) (n := len) (p := fun i z => W.cell? (a'.add i) = some (.bool z)) (by
      intro i hi
      obtain ⟨h1, h2⟩ := hx i (by omega)
      obtain ⟨z, hz, _⟩ := DataW.trod_bool he h2
      simp at hz
      exact ⟨z, by rw [h1, hz]⟩)
    refine ⟨(List.range len).map f, some a', cap, by simp, ?_⟩
    by_cases h0 : len = 0
    · left; simp [h0]
    · right
      obtain ⟨b, o, sp⟩ := a'
      have h1 := hf 0 (by omega)
      have hsp : sp = none := by simpa [Addr.add] using World.cell?_spot h1
      subst hsp
      refine ⟨b, o, rfl, by simpa [Addr.add] using World.block_lt_of_cell? _ _ h1, ?_⟩
      intro i hi
      simp at hi
      simp only [List.getElem_map, List.getElem_range]
      have := hf i hi
      rw [Addr.add_mid] at this
      exact this
theorem open_bools0 {fuel : Nat} {a : Option Addr} {len cap : Nat} {x : DataW H × List MemPlace} (h : DataW.trod enc Try.prog W base spare held fuel 37 [.slice a len cap] = some x) : ∃ ns, BsIs W (.slice a len cap) ns :=
  open_bools Try.underlying37 Try.underlying4 (by kernel_rfl) h
end
end Go.Proofs.Ytfmdghijbkddpaa

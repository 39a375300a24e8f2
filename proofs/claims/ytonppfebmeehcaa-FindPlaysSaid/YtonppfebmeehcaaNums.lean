/- Lists of numbers that came in. -/
import Derived.Test.YtonppfebmeehcaaHashEq
import Derived.ProofKit
import Derived.OpenShut
import Derived.ShutString
import Derived.ChangeOld
import Derived.Deep.Slices
namespace Go.Proofs.Ytonppfebmeehcaa
open Go.ChangeShapes Go.WideShapes Go.ChangeAt Go.RowKit
set_option linter.unusedVariables false
set_option linter.unusedSimpArgs false

/-- A list of numbers of a kind that came in. -/
def NsIs (k : IntKind) (w : World) (v : Value) (ns : List Int) : Prop :=
  (∀ n ∈ ns, (Lit.int k n).wf = true) ∧ ∃ a cap, v = .slice a ns.length cap ∧ (ns = [] ∨ ∃ b o, a = some ⟨b, o, none⟩ ∧ b < w.heap.size ∧ ∀ i (hi : i < ns.length), w.cell? ⟨b, o + i, none⟩ = some (.int k ns[i]))
theorem NsIs.chg {k : IntKind} {w w' : World} {v : Value} {ns : List Int} {F : List Nat} (h : NsIs k w v ns) (hc : Chg F w w') (hF : ∀ k ∈ F, w.heap.size ≤ k) : NsIs k w' v ns := by
  obtain ⟨h1, a, cap, hv, h2⟩ := h
  refine ⟨h1, a, cap, hv, ?_⟩
  rcases h2 with h2 | ⟨b, o, ha, hb, hr⟩
  · exact .inl h2
  · refine .inr ⟨b, o, ha, by have := hc.size; omega, fun i hi => ?_⟩
    rw [hc.cell (p := ⟨b, o + i, none⟩) hb (fun e => by have : w.heap.size ≤ b := hF _ e; omega)]
    exact hr i hi
theorem wf_u64 {n : Int} (h : (Lit.int .u64 n).wf = true) : 0 ≤ n ∧ n < 18446744073709551616 := by
  simp [Lit.wf, IntKind.min, IntKind.max, IntKind.signed, IntKind.bits] at h
  omega
theorem wf_i64 {n : Int} (h : (Lit.int .i64 n).wf = true) : -9223372036854775808 ≤ n ∧ n < 9223372036854775808 := by
  simp [Lit.wf, IntKind.min, IntKind.max, IntKind.signed, IntKind.bits] at h
  omega

section
variable {H : Type} {enc : TypeId × Value → H} {W : World} {base : Nat} {spare : Nat → Bool} {held : Bool}
theorem open_nums {t e : TypeId} {k : IntKind} (ht : Try.prog.underlying t = some (.slice e)) (he : Try.prog.underlying e = some (.int k)) (hc : Try.prog.cellsOf e = 1) {fuel : Nat} {a : Option Addr} {len cap : Nat} {x : DataW H × List MemPlace} (h : DataW.trod enc Try.prog W base spare held fuel t [.slice a len cap] = some x) : ∃ ns, NsIs k W (.slice a len cap) ns := by
  rcases Deep.open_slice1 ht hc h with ⟨hc, _⟩ | ⟨a', len', cap', m, n, V, D, Pl, hcs, _, hle, _, hm, _, hx⟩
  · simp at hc
    obtain ⟨rfl, rfl, rfl⟩ := hc
    exact ⟨[], by simp, none, 0, rfl, .inl rfl⟩
  · simp at hcs
    obtain ⟨rfl, rfl, rfl⟩ := hcs
    have hlm : len ≤ m := by rw [hm]; split <;> omega
    obtain ⟨f, hf⟩ := Deep.choose_lt (α := Int) (n := len) (p := fun i z => (Lit.int k z).wf = true ∧ W.cell? (a'.add i) = some (.int k z)) (by
      intro i hi
      obtain ⟨h1, h2⟩ := hx i (by omega)
      obtain ⟨z, hz, _, hw⟩ := DataW.trod_int he h2
      simp at hz
      exact ⟨z, hw, by rw [h1, hz]⟩)
    refine ⟨(List.range len).map f, ?_, some a', cap, by simp, ?_⟩
    · intro z hz
      obtain ⟨i, hi, rfl⟩ := List.mem_map.1 hz
      exact (hf i (List.mem_range.1 hi)).1
    · by_cases h0 : len = 0
      · left; simp [h0]
      · right
        obtain ⟨b, o, sp⟩ := a'
        have h1 := (hf 0 (by omega)).2
        have hsp : sp = none := by simpa [Addr.add] using World.cell?_spot h1
        subst hsp
        refine ⟨b, o, rfl, by simpa [Addr.add] using World.block_lt_of_cell? _ _ h1, ?_⟩
        intro i hi
        simp at hi
        simp only [List.getElem_map, List.getElem_range]
        have := (hf i hi).2
        rw [Addr.add_mid] at this
        exact this
end
end Go.Proofs.Ytonppfebmeehcaa

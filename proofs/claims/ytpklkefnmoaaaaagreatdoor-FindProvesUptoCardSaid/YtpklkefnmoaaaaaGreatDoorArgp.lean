/- Texts put into one by pack.py: Arg. -/
import Derived.ProofKit
import Derived.OpenShut
import Derived.ShutString
import Derived.ChangeOld
import Derived.Deep.Slices
import Derived.Test.YtpklkefnmoaaaaaGreatDoorPkA
/- Lists of hashes among the arguments. -/
namespace Go.Proofs.YtpklkefnmoaaaaaGreatDoor
open Go.ChangeShapes Go.WideShapes Go.ChangeAt Go.RowKit
set_option linter.unusedVariables false
set_option linter.unusedSimpArgs false

theorem u_hashesA : Tryz.prog.underlying 39 = some (.slice 36) := by kernel_rfl
theorem c_HashA : Tryz.prog.cellsOf 36 = 32 := by kernel_rfl
theorem c_u8 : Tryz.prog.cellsOf 5 = 1 := by kernel_rfl

section
variable {H : Type} {enc : TypeId × Value → H} {W : World} {base : Nat} {spare : Nat → Bool} {held : Bool}
theorem open_hash {fuel : Nat} {cs : List Value} {x : DataW H × List MemPlace} (h : DataW.trod enc Tryz.prog W base spare held fuel 36 cs = some x) : IsHash cs.toArray := by
  obtain ⟨xs, m, _, _, hl, hxl, hx⟩ := DataW.trod_array u_Hash h
  rw [c_HashA] at hl
  refine ⟨by simpa using hl, ?_⟩
  intro v hv
  simp at hv
  obtain ⟨j, hj, rfl⟩ := List.mem_iff_getElem.1 hv
  have h1 := hx j (by omega)
  rw [c_u8, Nat.mul_one, List.drop_eq_getElem_cons hj] at h1
  simp only [List.take_succ_cons, List.take_zero] at h1
  rw [List.getElem?_eq_getElem (by omega)] at h1
  obtain ⟨n, hn, _, hw⟩ := DataW.trod_int u_u8 h1
  simp at hn
  refine ⟨n, hn, ?_⟩
  simp [Lit.wf, IntKind.min, IntKind.max, IntKind.signed, IntKind.bits] at hw
  omega
theorem open_hashes {fuel : Nat} {a : Option Addr} {len cap : Nat} {x : DataW H × List MemPlace} (h : DataW.trod enc Tryz.prog W base spare held fuel 39 [.slice a len cap] = some x) : ∃ hs, HsIs W (.slice a len cap) hs := by
  rcases Deep.open_slice u_hashesA h with ⟨hc, _⟩ | ⟨a', len', cap', m, n, D, Pl, hcs, _, hle, _, hm, _, hx⟩
  · simp at hc
    obtain ⟨rfl, rfl, rfl⟩ := hc
    exact ⟨[], by simp, none, 0, rfl, .inl rfl⟩
  · simp at hcs
    obtain ⟨rfl, rfl, rfl⟩ := hcs
    have hlm : len ≤ m := by rw [hm]; split <;> omega
    obtain ⟨f, hf⟩ := Deep.choose_lt (α := Array Value) (n := len) (p := fun i cs => IsHash cs ∧ ∀ j (hj : j < cs.size), W.cell? ((a'.add (i * 32)).add j) = some cs[j]) (by
      intro i hi
      obtain ⟨cs', h1, h2⟩ := hx i (by omega)
      rw [c_HashA] at h1
      obtain ⟨_, h3, h4⟩ := World.cells?_some h1
      refine ⟨cs'.toArray, open_hash h2, ?_⟩
      intro j hj
      simp at hj
      rw [h4 j (by omega)]
      simp [hj])
    refine ⟨(List.range len).map f, ?_, some a', cap, by simp, ?_⟩
    · intro h hh
      obtain ⟨i, hi, rfl⟩ := List.mem_map.1 hh
      exact (hf i (List.mem_range.1 hi)).1
    · by_cases h0 : len = 0
      · left; simp [h0]
      · right
        obtain ⟨b, o, sp⟩ := a'
        have h1 := (hf 0 (by omega)).2 0 (by rw [(hf 0 (by omega)).1.1]; omega)
        have hsp : sp = none := by simpa [Addr.add] using World.cell?_spot h1
        subst hsp
        refine ⟨b, o, rfl, by simpa [Addr.add] using World.block_lt_of_cell? _ _ h1, ?_⟩
        intro i hi
        simp at hi
        simp only [List.getElem_map, List.getElem_range]
        refine rng?_mk (hf i hi).1.1 ?_
        intro j hj
        have := (hf i hi).2 j hj
        rw [Addr.add_mid, Addr.add_mid] at this
        exact this
end
end Go.Proofs.YtpklkefnmoaaaaaGreatDoor

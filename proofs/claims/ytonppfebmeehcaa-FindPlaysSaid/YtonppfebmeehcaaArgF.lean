/- Lists of a find's acts among the arguments. -/
import Derived.Test.YtonppfebmeehcaaFdX
import Derived.Test.YtonppfebmeehcaaArg
import Derived.Test.YtonppfebmeehcaaNums
namespace Go.Proofs.Ytonppfebmeehcaa
open Go.ChangeShapes Go.WideShapes Go.ChangeAt Go.RowKit
set_option linter.unusedVariables false
set_option linter.unusedSimpArgs false
instance : Inhabited AF := ⟨⟨0, ⟨zeroHash, zeroHash_is⟩, 0⟩⟩
theorem actF_f0 : ((Try.prog.fieldsOf 33)[0]?).map (fun f => (f.type, f.offset)) = some (3, 0) := by kernel_rfl
theorem actF_f1 : ((Try.prog.fieldsOf 33)[1]?).map (fun f => (f.type, f.offset)) = some (30, 1) := by kernel_rfl
theorem actF_f2 : ((Try.prog.fieldsOf 33)[2]?).map (fun f => (f.type, f.offset)) = some (31, 33) := by kernel_rfl
theorem actF_fn : (Try.prog.fieldsOf 33).size = 3 := by kernel_rfl
theorem cF_Act : Try.prog.cellsOf 33 = 34 := by kernel_rfl
theorem cF_int : Try.prog.cellsOf 3 = 1 := by kernel_rfl
theorem cF_u64 : Try.prog.cellsOf 31 = 1 := by kernel_rfl
theorem uF_int : Try.prog.underlying 3 = some (.int .i64) := by kernel_rfl
theorem uF_acts : Try.prog.underlying 22 = some (.slice 33) := by kernel_rfl
section
variable {H : Type} {enc : TypeId × Value → H} {W : World} {base : Nat} {spare : Nat → Bool} {held : Bool}
theorem open_actF {fuel : Nat} {cs : List Value} {y : DataW H × List MemPlace} (h : DataW.trod enc Try.prog W base spare held fuel 33 cs = some y) : ∃ x : AF, cs = x.cells.toList ∧ x.ok := by
  obtain ⟨xs, n, _, rfl, hl, hxl, hf⟩ := DataW.trod_struct u_ActF h
  rw [actF_fn] at hxl
  rw [cF_Act] at hl
  have hx : ∀ i (hi : i < 3), xs[i]? = some (xs[i]'(by omega)) := fun i hi => List.getElem?_eq_getElem (by omega)
  obtain ⟨f0, hf0, e0⟩ := Option.map_eq_some_iff.1 actF_f0
  obtain ⟨f1, hf1, e1⟩ := Option.map_eq_some_iff.1 actF_f1
  obtain ⟨f2, hf2, e2⟩ := Option.map_eq_some_iff.1 actF_f2
  simp only [Prod.mk.injEq] at e0 e1 e2
  have g0 := hf 0 f0 hf0
  have g1 := hf 1 f1 hf1
  have g2 := hf 2 f2 hf2
  rw [e0.1, e0.2, cF_int, hx 0 (by omega)] at g0
  rw [e1.1, e1.2, c_HashA, hx 1 (by omega)] at g1
  rw [e2.1, e2.2, cF_u64, hx 2 (by omega)] at g2
  obtain ⟨z0, p0, _, w0⟩ := DataW.trod_int uF_int g0
  have p1 := open_hash g1
  obtain ⟨z2, p2, _, w2⟩ := DataW.trod_int u_u64 g2
  have w0' := wf_i64 w0
  have w2' := wf_u64 w2
  refine ⟨⟨z0, ⟨((cs.drop 1).take 32).toArray, p1⟩, z2.toNat⟩, ?_, ⟨w0', by simp only; omega⟩⟩
  have hz2 : ((z2.toNat : Nat) : Int) = z2 := by omega
  have e : cs = (cs.drop 0).take 1 ++ ((cs.drop 1).take 32 ++ (cs.drop 33).take 1) := by
    have h33 : (cs.drop 33).take 1 = cs.drop 33 := List.take_of_length_le (by simp; omega)
    rw [h33]
    have h1 : (cs.drop 1).take 32 ++ cs.drop 33 = cs.drop 1 := by
      have := List.take_append_drop 32 (cs.drop 1)
      rwa [List.drop_drop] at this
    rw [h1, List.drop_zero, List.take_append_drop]
  refine e.trans ?_
  rw [p0, p2]
  simp [AF.cells, hz2]
theorem open_actsF {fuel : Nat} {a : Option Addr} {len cap : Nat} {x : DataW H × List MemPlace} (h : DataW.trod enc Try.prog W base spare held fuel 22 [.slice a len cap] = some x) : ∃ l, ActsF W (.slice a len cap) l := by
  rcases Deep.open_slice uF_acts h with ⟨hc, _⟩ | ⟨a', len', cap', m, n, D, Pl, hcs, _, hle, _, hm, hxx, hx⟩
  · simp at hc
    obtain ⟨rfl, rfl, rfl⟩ := hc
    exact ⟨[], by simp, none, 0, rfl, .inl rfl⟩
  · simp at hcs
    obtain ⟨rfl, rfl, rfl⟩ := hcs
    have hlm : len ≤ m := by rw [hm]; split <;> omega
    obtain ⟨f, hf⟩ := Deep.choose_lt (α := AF) (n := len) (p := fun i y => y.ok ∧ ∀ j (hj : j < y.cells.size), W.cell? ((a'.add (i * 34)).add j) = some y.cells[j]) (by
      intro i hi
      obtain ⟨cs', h1, h2⟩ := hx i (by omega)
      rw [cF_Act] at h1
      obtain ⟨_, h3, h4⟩ := World.cells?_some h1
      obtain ⟨y, hy, hok⟩ := open_actF h2
      refine ⟨y, hok, ?_⟩
      intro j hj
      rw [h4 j (by have := y.size; omega)]
      subst hy
      simp)
    refine ⟨(List.range len).map f, ?_, some a', cap, by simp, ?_⟩
    · intro y hy
      obtain ⟨i, hi, rfl⟩ := List.mem_map.1 hy
      exact (hf i (List.mem_range.1 hi)).1
    · by_cases h0 : len = 0
      · left; simp [h0]
      · right
        obtain ⟨b, o, sp⟩ := a'
        have h1 := (hf 0 (by omega)).2 0 (by rw [(f 0).size]; omega)
        have hsp : sp = none := by simpa [Addr.add] using World.cell?_spot h1
        subst hsp
        refine ⟨b, o, rfl, by simpa [Addr.add] using World.block_lt_of_cell? _ _ h1, ?_⟩
        intro i hi
        simp at hi
        simp only [List.getElem_map, List.getElem_range]
        refine rng?_mk (f i).size ?_
        intro j hj
        have := (hf i hi).2 j hj
        rw [Addr.add_mid, Addr.add_mid] at this
        exact this
end
end Go.Proofs.Ytonppfebmeehcaa

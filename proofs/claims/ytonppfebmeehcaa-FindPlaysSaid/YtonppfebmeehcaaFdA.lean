/- Hashes as a map's keys. -/
import Derived.Test.YtonppfebmeehcaaHashEq
namespace Go.Proofs.Ytonppfebmeehcaa
open Go.RowKit
set_option linter.unusedVariables false
set_option linter.unusedSimpArgs false

def HK : Type := {x : Array Value // IsHash x}
instance : DecidableEq HK := fun a b => decidable_of_iff (eqH a.1 b.1 = true) ((eqH_iff a.2 b.2).trans Subtype.ext_iff.symm)
def encH (k : HK) : Value := .agg k.1
theorem u_maph : Try.prog.underlying 70 = some (.map 30 36) := by kernel_rfl
theorem z_u64s (w : World) : (zeroValue 36).run Try.prog w = .ok (.slice none 0 0) w := by kernel_rfl
theorem so_u8 (w : World) : (sizeOf 5).run Try.prog w = .ok 1 w := by kernel_rfl
theorem chk_u8 (em : Bool) (n : Nat) (x : Int) (w : World) : (Instr.checkKey em (n + 1) 5 (.int .u8 x)).run Try.prog w = .ok () w := by
  unfold Instr.checkKey
  simp [run_underlying u_u8 w]
theorem isAgg_u8 (w : World) : (isAgg 5).run Try.prog w = .ok false w := by kernel_rfl
theorem part_u8 {h : Array Value} (hh : IsHash h) (i : Nat) (hi : i < 32) (w : World) : ∃ x : Int, (part 5 h i).run Try.prog w = .ok (.int .u8 x) w := by
  have hi2 : i < h.size := by rw [hh.1]; exact hi
  obtain ⟨n, hn, _⟩ := hh.2 (h[i]'hi2) (by simp)
  refine ⟨n, ?_⟩
  unfold part
  simp only [Sem.run_bind, isAgg_u8, Result.andThen_ok, Bool.false_eq_true, if_false, Array.getElem?_eq_getElem hi2, hn, Sem.run_pure]
theorem chk_loop {h : Array Value} (hh : IsHash h) (em : Bool) (n : Nat) (w : World) : ∀ l : List Nat, (∀ i ∈ l, i < 32) →
    (forIn l PUnit.unit fun i (_ : PUnit) => do
      let s ← sizeOf 5
      let x ← part 5 h (i * s)
      Instr.checkKey em (n + 1) 5 x
      pure (ForInStep.yield PUnit.unit) : Sem PUnit).run Try.prog w = .ok PUnit.unit w := by
  intro l
  induction l with
  | nil => intro _; rfl
  | cons i l ih =>
    intro hl
    obtain ⟨x, hx⟩ := part_u8 hh i (hl i (by simp)) w
    rw [List.forIn_cons]
    simp only [Sem.run_bind, so_u8, Result.andThen_ok, Nat.mul_one, hx, chk_u8, Sem.run_pure]
    exact ih (fun j hj => hl j (by simp [hj]))
theorem encH_law : KeyEnc (K := HK) Try.prog 30 encH where
  desc := ⟨_, u_Hash, fun a b => .inl rfl⟩
  eq a b w := by
    unfold encH Op.equal Op.maxDepth
    rw [eq_Hash _ _ a.2 b.2]
    congr 1
    rw [Bool.eq_iff_iff, decide_eq_true_iff, eqH_iff a.2 b.2]
    exact Subtype.ext_iff.symm
  chk e a w := by
    unfold encH Instr.checkKey
    simp only [Sem.run_bind, run_underlying u_Hash w, Result.andThen_ok]
    have := chk_loop a.2 e 9998 w (List.range' 0 32) (by intro i hi; simp at hi; omega)
    simp only [Std.Legacy.Range.forIn_eq_forIn_range', Std.Legacy.Range.size, Nat.sub_zero, Nat.add_one_sub_one, Nat.div_one]
    rw [this]
    rfl
  bits a := by
    unfold encH Instr.sameBits
    rw [Bool.and_eq_true]
    refine ⟨by simp, ?_⟩
    rw [List.all_eq_true]
    rintro ⟨x, y⟩ hxy
    have h1 := a.2.2
    have : x = y ∧ x ∈ a.1.toList := by
      rw [List.mem_iff_getElem] at hxy
      obtain ⟨i, hi, e⟩ := hxy
      rw [List.getElem_zip] at e
      injection e with e1 e2
      exact ⟨e1.symm.trans e2, e1 ▸ List.getElem_mem _⟩
    obtain ⟨rfl, hm⟩ := this
    obtain ⟨n, rfl, _⟩ := h1 x hm
    simp [Instr.sameBits]
  inj a b h := by
    unfold encH at h
    injection h with h
    exact Subtype.ext h
end Go.Proofs.Ytonppfebmeehcaa

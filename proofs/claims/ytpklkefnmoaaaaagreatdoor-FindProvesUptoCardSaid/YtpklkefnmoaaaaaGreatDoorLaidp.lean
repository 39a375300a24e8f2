/- Texts put into one by pack.py: Laid. -/
import Derived.ProofKit
import Derived.LaidMore
import Derived.OpenShut
import Derived.Test.YtpklkefnmoaaaaaGreatDoorRows
import Derived.Test.YtpklkefnmoaaaaaGreatDoorHaEp
/- The two tables of the hash, as the statements list them: where they lie. -/
namespace Go.Proofs.YtpklkefnmoaaaaaGreatDoor
open Go.RowKit
set_option linter.unusedVariables false
set_option linter.unusedSimpArgs false

section
variable {H : Type} {enc : TypeId × Value → H} {P : Program} {w : World} {base : Nat} {spare : Nat → Bool} {held : Bool} {fuel : Nat} {t e : TypeId} {cs : List Value}
theorem arr_cells {k : IntKind} {n : Nat} {ds : List Nat} {q : List MemPlace} (ht : P.underlying t = some (.array n e)) (hte : P.underlying e = some (.int k)) (hc : P.cellsOf e = 1) (hn : ds.length = n)
    (h : DataW.trod enc P w base spare held fuel t cs = some (.agg (ds.map fun (d : Nat) => .lit (.int k (d : Int))), q)) : ∀ i, i < n → cs[i]? = some (.int k (ds.getD i 0 : Nat)) := by
  intro i hi
  obtain ⟨xs, m, rfl, hx, hlen, hn3, hel⟩ := DataW.trod_array ht h
  simp only [Prod.mk.injEq, DataW.agg.injEq] at hx
  have h1 := hel i hi
  rw [hc, Nat.mul_one, List.getElem?_eq_getElem (by omega)] at h1
  obtain ⟨z, e1, e2, _⟩ := DataW.trod_int hte h1
  have h3 := congrArg (fun l => l[i]?) hx.1
  simp only [List.getElem?_map, List.getElem?_eq_getElem (show i < xs.length by omega), List.getElem?_eq_getElem (show i < ds.length by omega), Option.map_some, Option.some.injEq] at h3
  rw [e2] at h3
  simp only [DataW.lit.injEq, Lit.int.injEq, true_and] at h3
  have h4 := congrArg (fun l => l[0]?) e1
  simp only [List.getElem?_cons_zero, List.getElem?_take, List.getElem?_drop] at h4
  rw [if_pos (by omega), Nat.add_zero] at h4
  rw [h4, ← h3]
  simp [List.getD, List.getElem?_eq_getElem (show i < ds.length by omega)]
end
theorem wfb_u64 {n : Int} (h : (Lit.int .u64 n).wf = true) : 0 ≤ n ∧ n < 18446744073709551616 := by
  simp [Lit.wf, IntKind.min, IntKind.max, IntKind.signed, IntKind.bits] at h
  omega
theorem wfb_i64 {n : Int} (h : (Lit.int .i64 n).wf = true) : -9223372036854775808 ≤ n ∧ n < 9223372036854775808 := by
  simp [Lit.wf, IntKind.min, IntKind.max, IntKind.signed, IntKind.bits] at h
  omega
def laidL : List (String × DataW Unit) := [("massif/hash.k", Rows.laid_massif_hash_k), ("massif/hash.first", Rows.laid_massif_hash_first)]
theorem gK : Tryz.prog.globalNamed "massif/hash.k" = some 2 := by kernel_rfl
theorem gF : Tryz.prog.globalNamed "massif/hash.first" = some 0 := by kernel_rfl
theorem tK : (Tryz.prog.globals[2]?).map (·.type) = some 288 := by kernel_rfl
theorem tF : (Tryz.prog.globals[0]?).map (·.type) = some 36 := by kernel_rfl
theorem dK : (Rows.laid_massif_hash_k : DataW Unit) = .agg (kTab.map fun (d : Nat) => .lit (.int .u32 (d : Int))) := by rfl
theorem dF : (Rows.laid_massif_hash_first : DataW Unit) = .agg (firstN.map fun (d : Nat) => .lit (.int .u8 (d : Int))) := by rfl
theorem uK : Tryz.prog.underlying 288 = some (.array 64 276) := by kernel_rfl
theorem uF : Tryz.prog.underlying 36 = some (.array 32 5) := by kernel_rfl
theorem uW : Tryz.prog.underlying 276 = some (.int .u32) := by kernel_rfl
theorem uB : Tryz.prog.underlying 5 = some (.int .u8) := by kernel_rfl
theorem his_of_laid {W : World} (h : laidMetH Tryz.prog laidL W) : HIs W := by
  rw [MakeChecks.laidMetH_plain _ _ _ (by kernel_rfl)] at h
  obtain ⟨ps, ⟨g0, t0, cs0, f0, p0, q0, hg0, ht0, hv0, hd0, ⟨g1, t1, cs1, f1, p1, q1, hg1, ht1, hv1, hd1, _, _⟩, _⟩, _, _⟩ := h
  obtain rfl := Option.some.inj (gK.symm.trans hg0)
  obtain rfl := Option.some.inj (gF.symm.trans hg1)
  obtain rfl := Option.some.inj (tK.symm.trans ht0)
  obtain rfl := Option.some.inj (tF.symm.trans ht1)
  rw [dK] at hd0
  rw [dF] at hd1
  have a0 := arr_cells uK uW (by kernel_rfl) (by rfl) hd0
  have a1 := arr_cells uF uB (by kernel_rfl) (by rfl) hd1
  refine ⟨fun j hj => ?_, fun j hj => ?_⟩
  · rw [World.var?_cell hg0 hv0 j, ← Array.getElem?_toList]
    exact a0 j hj
  · rw [World.var?_cell hg1 hv1 j, ← Array.getElem?_toList]
    exact a1 j hj
/-- The door's own heap meets the condition. -/
theorem door_met (os : Os) (args : Array Value) : laidMetH Tryz.prog laidL ((World.doorLaid Tryz.prog 19 os).forCall (fun _ _ => 0) ⟨#[], args, []⟩).memory :=
  laidMetH_of_parts3 (fuel := 8) (laidMet_of_run' 8 (by kernel_rfl) (by kernel_rfl)) (by kernel_rfl) (by kernel_rfl)
end Go.Proofs.YtpklkefnmoaaaaaGreatDoor

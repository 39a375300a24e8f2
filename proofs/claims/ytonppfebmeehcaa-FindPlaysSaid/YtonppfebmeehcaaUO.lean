/- Rows of numbers of the call's own (PsB's part of it, for seats without the places; never import both). -/
import Derived.Test.YtonppfebmeehcaaOwn
import Derived.Test.YtonppfebmeehcaaProg
namespace Go.Proofs.Ytonppfebmeehcaa
open Go.RowKit
set_option linter.unusedVariables false
set_option linter.unusedSimpArgs false

/-! Rows of numbers of the call's own. -/
theorem u_u64s : Try.prog.underlying 36 = some (.slice 31) := by kernel_rfl
theorem i_u64 : (Try.prog.info? 31).map (fun i => (i.zero, i.size, i.bytes)) = some (some (.int .u64 0), 1, 8) := by kernel_rfl
theorem infoOfU {P : Program} {t : TypeId} {z : Value} {n k : Nat} (h : (P.info? t).map (fun i => (i.zero, i.size, i.bytes)) = some (some z, n, k)) : ∃ i, P.info? t = some i ∧ i.zero = some z ∧ i.size = n ∧ i.bytes = k := by
  cases hi : P.info? t with
  | none => simp [hi] at h
  | some i => simp [hi] at h; exact ⟨i, rfl, h⟩
def UOwn (w : World) (B : Nat) (v : Value) (l : List Nat) : Prop := w.ownsRow B 31 1 v l.length (l.map fun (n : Nat) => Value.int .u64 (n : Int))
theorem UOwn.nil (w : World) (B : Nat) : UOwn w B (.slice none 0 0) [] := own_nil _ _ _ _
theorem UOwn.push {w : World} {B : Nat} {v : Value} {l : List Nat} (h : UOwn w B v l) (x : Nat) (hlen : l.length ≤ 1099511627776) (hB : B ≤ w.heap.size) (ty : TypeId) :
    ∃ v' w', (Builtin.append_ #[36, 36] ty #[v, .slice (some ⟨w.heap.size, 0, none⟩) 1 1]).run Try.prog (w.alloc (.cells #[.int .u64 x] 31)) = .ok v' w' ∧ UOwn w' B v' (l ++ [x]) ∧ Chg (ob v) w w' ∧ (∀ k ∈ ob v', k ∈ ob v ∨ w.heap.size ≤ k) := by
  obtain ⟨i, hi, hz, hsz, hby⟩ := infoOfU i_u64
  have hc : Chg [] w (w.alloc (.cells #[.int .u64 x] 31)) := (Chg.refl _ _).alloc _
  have h1 := own_chg h hc (by simp)
  obtain ⟨v', w', hr, h2, h3, h4⟩ := run_append_any (P := Try.prog) (w.alloc (.cells #[.int .u64 x] 31)) B 36 ty 31 i _ 1 8 u_u64s hi hz hsz hby rfl (by decide) v l.length _ h1 (some ⟨w.heap.size, 0, none⟩) 1 1 [.int .u64 x]
    ⟨rfl, fun _ => ⟨w.heap.size, 0, rfl, fun j u hu => by
      have : j = 0 := by
        cases j with
        | zero => rfl
        | succ j => simp at hu
      subst this
      simp at hu
      subst hu
      exact blk_cell (blk_new w _) 0 rfl⟩⟩ (by intro u hu; simp at hu; subst hu; rfl) (by unfold maxLen; omega) (by omega) (by have := hc.size; omega)
  refine ⟨v', w', hr, ?_, hc.of_nil.trans h3 (fun k hk => .inl hk), fun k hk => ?_⟩
  · unfold UOwn
    rw [List.length_append, List.map_append]
    exact h2
  · rcases h4 k hk with q | q
    · exact .inl q
    · right; have := hc.size; omega
theorem and1 (q : Nat) (h : q < 18446744073709551616) : bits BinOp.and IntKind.u64 (q : Int) 1 = ((q % 2 : Nat) : Int) := by
  have := u64_and_nat q 1 h (by omega)
  rw [show ((1 : Nat) : Int) = 1 from rfl] at this
  rw [this, Nat.and_one_is_mod]
end Go.Proofs.Ytonppfebmeehcaa

/- Hashes: one with a byte, and when two are the same. -/
import Derived.Test.YtnodjlgihhinpaaDoorSt
import Derived.Stop.BytesEq
namespace Go.Proofs.YtnodjlgihhinpaaDoor
open Go.RowKit
open Go.Extern.Stop (cell)
set_option linter.unusedVariables false
set_option linter.unusedSimpArgs false

def hb (x : Array Value) : List Int := x.toList.map intOf
def eqH (x y : Array Value) : Bool := decide (hb x = hb y)

theorem IsHash.bytes {x : Array Value} (h : IsHash x) : ∃ xs : List UInt8, x = (xs.map cell).toArray ∧ xs.length = 32 := by
  obtain ⟨hs, hv⟩ := h
  have : ∀ l : List Value, (∀ v ∈ l, ∃ n : Int, v = .int .u8 n ∧ 0 ≤ n ∧ n < 256) → ∃ xs : List UInt8, l = xs.map cell := by
    intro l
    induction l with
    | nil => intro _; exact ⟨[], rfl⟩
    | cons v l ih =>
      intro hl
      obtain ⟨n, rfl, h0, h1⟩ := hl v (by simp)
      obtain ⟨xs, rfl⟩ := ih (fun v hv => hl v (by simp [hv]))
      refine ⟨UInt8.ofNat n.toNat :: xs, ?_⟩
      simp only [List.map_cons, List.cons.injEq, and_true, cell]
      congr 1
      simp
      omega
  obtain ⟨xs, hx⟩ := this x.toList hv
  refine ⟨xs, by rw [← hx], ?_⟩
  have := congrArg List.length hx
  simp at this
  omega

theorem hb_cells (xs : List UInt8) : hb (xs.map cell).toArray = xs.map fun c => (c.toNat : Int) := by
  unfold hb
  simp only [List.map_map]
  rfl
theorem map_inj (xs ys : List UInt8) : (xs.map fun c => (c.toNat : Int)) = (ys.map fun c => (c.toNat : Int)) ↔ xs = ys := by
  constructor
  · intro h
    induction xs generalizing ys with
    | nil => cases ys with
      | nil => rfl
      | cons _ _ => simp at h
    | cons x xs ih => cases ys with
      | nil => simp at h
      | cons y ys =>
        simp only [List.map_cons, List.cons.injEq] at h
        have h1 : x.toNat = y.toNat := by omega
        rw [UInt8.toNat_inj.1 h1, ih ys h.2]
  · rintro rfl; rfl
theorem eqH_iff {x y : Array Value} (hx : IsHash x) (hy : IsHash y) : eqH x y = true ↔ x = y := by
  obtain ⟨xs, rfl, _⟩ := hx.bytes
  obtain ⟨ys, rfl, _⟩ := hy.bytes
  unfold eqH
  rw [decide_eq_true_iff, hb_cells, hb_cells, map_inj]
  constructor
  · rintro rfl; rfl
  · intro h
    have : hb (xs.map cell).toArray = hb (ys.map cell).toArray := by rw [h]
    rw [hb_cells, hb_cells, map_inj] at this
    exact this
theorem eqH_self {x : Array Value} : eqH x x = true := by simp [eqH]

theorem u_u8 : Tryd.prog.underlying 5 = some (.int .u8) := by kernel_rfl
@[go_sem] theorem eq_Hash (x y : Array Value) (hx : IsHash x) (hy : IsHash y) (w : World) : (Op.equalIn 10000 37 (.agg x) (.agg y)).run Tryd.prog w = .ok (eqH x y) w := by
  have e := eqH_iff hx hy
  obtain ⟨xs, rfl, h1⟩ := hx.bytes
  obtain ⟨ys, rfl, h2⟩ := hy.bytes
  rw [run_equalIn_bytes w 9998 37 5 32 u_Hash u_u8 (fun w => by kernel_rfl) xs ys h1 h2]
  congr 1
  unfold eqH
  rw [hb_cells, hb_cells, Bool.eq_iff_iff, decide_eq_true_iff, map_inj]
  simp

/-- The hash with one byte ahead of zeros. -/
def hash1 (n : Int) : Array Value := zeroHash.setIfInBounds 0 (.int .u8 n)
theorem hash1_is {n : Int} (h0 : 0 ≤ n) (h1 : n < 256) : IsHash (hash1 n) := by
  refine ⟨by simp [hash1, zeroHash_size], ?_⟩
  intro v hv
  unfold hash1 at hv
  rw [Array.toList_setIfInBounds] at hv
  rcases List.mem_or_eq_of_mem_set hv with h | h
  · exact zeroHash_is.2 v h
  · exact ⟨n, h, h0, h1⟩
theorem hash1_size (n : Int) : (hash1 n).size = 32 := by simp [hash1, zeroHash_size]
@[go_sem] theorem bd_Hash1 (n : Int) (w : World) : (bdX 37 #[(0, .int .u8 n)]).run Tryd.prog w = .ok (.agg (hash1 n)) w := by
  have h32 : ∀ w, (sizeOf 5).run Tryd.prog w = .ok 1 w := fun w => by kernel_rfl
  unfold bdX Instr.build
  simp only [Sem.run_bind, zv_Hash, run_underlying u_Hash, Result.andThen_ok, h32, Value.cells]
  rw [fill_part _ _ 0 0 1 (.int .u8 n) _ rfl rfl (by rw [zeroHash_size]; omega)]
  simp only [Instr.fill, Sem.run_pure, Result.ok.injEq, and_true, Value.agg.injEq]
  apply Array.toList_inj.1
  unfold hash1
  rw [Array.toList_setIfInBounds, List.set_eq_take_append_cons_drop, if_pos (by simp [zeroHash_size])]
  simp [Value.cells]

/-- A list of hashes that came in. -/
def HsIs (w : World) (v : Value) (hs : List (Array Value)) : Prop :=
  (∀ h ∈ hs, IsHash h) ∧ ∃ a cap, v = .slice a hs.length cap ∧ (hs = [] ∨ ∃ b o, a = some ⟨b, o, none⟩ ∧ b < w.heap.size ∧ ∀ i (hi : i < hs.length), rng? w b (o + i * 32) 32 = some hs[i])
theorem HsIs.chg {w w' : World} {v : Value} {hs : List (Array Value)} {F : List Nat} (h : HsIs w v hs) (hc : Chg F w w') (hF : ∀ k ∈ F, w.heap.size ≤ k) : HsIs w' v hs := by
  obtain ⟨h1, a, cap, hv, h2⟩ := h
  refine ⟨h1, a, cap, hv, ?_⟩
  rcases h2 with h2 | ⟨b, o, ha, hb, hr⟩
  · exact .inl h2
  · refine .inr ⟨b, o, ha, by have := hc.size; omega, fun i hi => rng?_chg hc (hr i hi) (by omega) (fun e => by have := hF _ e; omega)⟩
end Go.Proofs.YtnodjlgihhinpaaDoor

/- The acts of FindPlays in memory. -/
import Derived.Test.YtonppfebmeehcaaFdW
namespace Go.Proofs.Ytonppfebmeehcaa
open Go.RowKit
set_option linter.unusedVariables false
set_option linter.unusedSimpArgs false

structure AF where
  what : Int
  k : HK
  i : Nat
def AF.cells (x : AF) : Array Value := (#[Value.int .i64 x.what] ++ x.k.1).push (.int .u64 x.i)
structure AF.ok (x : AF) : Prop where
  what : -9223372036854775808 ≤ x.what ∧ x.what < 9223372036854775808
  i : x.i < 18446744073709551616
theorem AF.size (x : AF) : x.cells.size = 34 := by simp [AF.cells, x.k.2.1]
theorem AF.one (x : AF) : one1 x.cells = true := by
  have hh := x.k.2.one
  unfold one1 at *
  rw [Array.all_eq_true_iff_forall_mem] at hh ⊢
  intro v hv
  simp only [AF.cells, Array.mem_push, Array.mem_append] at hv
  rcases hv with (hv | hv) | rfl
  · simp at hv
    rw [hv]; rfl
  · exact hh v hv
  · rfl
theorem af0 (x : AF) : x.cells[0]? = some (.int .i64 x.what) := by
  unfold AF.cells
  rw [Array.getElem?_push_lt (by simp; omega), Array.getElem_append_left (by simp)]
  rfl
theorem af1 (x : AF) {j : Nat} (hj : j < x.k.1.size) : x.cells[1 + j]? = some x.k.1[j] := by
  unfold AF.cells
  rw [Array.getElem?_push_lt (by simp; omega), Array.getElem_append_right (by simp)]
  simp
theorem af33 (x : AF) : x.cells[33]? = some (.int .u64 x.i) := by
  unfold AF.cells
  rw [Array.getElem?_push]
  simp [x.k.2.1]
/-- What the act's box tells. -/
structure FB (w : World) (bx : Nat) (x : AF) : Prop where
  c0 : w.cell? ⟨bx, 0, none⟩ = some (.int .i64 x.what)
  ch : rng? w bx 1 32 = some x.k.1
  c33 : w.cell? ⟨bx, 33, none⟩ = some (.int .u64 x.i)
  lt : bx < w.heap.size
theorem FB.new {w : World} (x : AF) : FB (w.alloc (.cells x.cells 33)) w.heap.size x := by
  have hb := blk_new w (.cells x.cells 33)
  exact ⟨blk_cell hb 0 (af0 x), rng?_mk x.k.2.1 (fun j hj => blk_cell hb (1 + j) (af1 x hj)), blk_cell hb 33 (af33 x), blk_lt hb⟩
theorem FB.chg {w w' : World} {x : AF} {bx : Nat} {F : List Nat} (h : FB w bx x) (hc : Chg F w w') (hF : bx ∉ F) : FB w' bx x :=
  ⟨by rw [hc.cell (p := ⟨bx, 0, none⟩) h.lt hF]; exact h.c0, rng?_chg hc h.ch (by omega) hF, by rw [hc.cell (p := ⟨bx, 33, none⟩) h.lt hF]; exact h.c33, Nat.lt_of_lt_of_le h.lt hc.size⟩
/-- A list of acts that came in. -/
def ActsF (w : World) (v : Value) (l : List AF) : Prop :=
  (∀ x ∈ l, x.ok) ∧ ∃ a cap, v = .slice a l.length cap ∧ (l = [] ∨ ∃ b o, a = some ⟨b, o, none⟩ ∧ b < w.heap.size ∧ ∀ i (hi : i < l.length), rng? w b (o + i * 34) 34 = some l[i].cells)
@[go_sem ↓] theorem hold_ld_ActF (x : Value) : Instr.loadAt 33 x = ldX 33 x := rfl
@[go_sem ↓] theorem hold_st_ActF (x v : Value) : Instr.storeAt 33 x v = stX 33 x v := rfl
theorem u_ActF : Try.prog.underlying 33 = some (.struct (Try.prog.fieldsOf 33)) := by kernel_rfl
@[go_sem] theorem ld_ActF (b o : Nat) (w : World) : (ldX 33 (.pointer (some ⟨b, o, none⟩))).run Try.prog w = ldR Try.prog 33 b o w (rng? w b o 34) := run_ldR _ _ 34 u_ActF rfl (by kernel_rfl) b o w
@[go_sem] theorem st_ActF (b o : Nat) (cs : Array Value) (w : World) : (stX 33 (.pointer (some ⟨b, o, none⟩)) (.agg cs)).run Try.prog w = stR Try.prog 33 b o cs w (may w b o 34 && decide (cs.size = 34) && one1 cs) := run_stR _ 34 (by kernel_rfl) b o cs w
def actZ : Array Value := (#[Value.int .i64 0] ++ zeroHash).push (.int .u64 0)
@[go_sem] theorem actZ_size : actZ.size = 34 := by simp [actZ, zeroHash_size]
@[go_sem ↓] theorem zv_ActF (w : World) : (zeroValue 33).run Try.prog w = .ok (.agg actZ) w := by kernel_rfl
theorem PF.start {w0 w1 : World} {b : Nat} (h : FdL [] w0 w1 b []) : PF [] w0 (w1.alloc (.cells #[.slice none 0 0] 28)) b w1.heap.size [] [] := by
  obtain ⟨f, h1, h2⟩ := h
  have hc : Chg [] w1 (w1.alloc (.cells #[.slice none 0 0] 28)) := (Chg.refl _ _).alloc _
  refine ⟨f, .slice none 0 0, h1.is.chg0 hc, h2, ⟨blk_new w1 _, HOwn.nil _ _, by simp [ob_nil]⟩, h1.chg.nil_trans hc, fun x hx => ?_, fun x hx => ⟨fun e => by have := h1.is.lt x hx; omega, by simp [ob_nil]⟩⟩
  rcases hx with q | q | q
  · exact h1.foot x q
  · exact .inr (by have := h1.chg.size; omega)
  · simp [ob_nil] at q
end Go.Proofs.Ytonppfebmeehcaa

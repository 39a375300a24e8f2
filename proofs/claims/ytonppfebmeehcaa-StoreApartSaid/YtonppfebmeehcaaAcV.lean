/- Acts: what one is in memory; those that came in. -/
import Derived.Test.YtonppfebmeehcaaMgDt
namespace Go.Proofs.Ytonppfebmeehcaa
open Go.RowKit
set_option linter.unusedVariables false
set_option linter.unusedSimpArgs false

structure AV where
  what : Int
  p : Nat
  h : Array Value
  a : Option Addr
  cap : Nat
  kl : List Nat
def AV.cells (x : AV) : Array Value := (#[Value.int .i64 x.what, Value.int .u64 x.p] ++ x.h).push (.slice x.a x.kl.length x.cap)
structure AV.ok (w : World) (x : AV) : Prop where
  hash : IsHash x.h
  what : -9223372036854775808 ≤ x.what ∧ x.what < 9223372036854775808
  p : x.p < 18446744073709551616
  rd : Rd w 1 x.a x.kl.length (x.kl.map fun (n : Nat) => Value.int .u64 (n : Int))
  kl : ∀ y ∈ x.kl, y < 18446744073709551616
theorem AV.ok.size {w : World} {x : AV} (h : x.ok w) : x.cells.size = 35 := by simp [AV.cells, h.hash.1]
theorem AV.ok.one {w : World} {x : AV} (h : x.ok w) : one1 x.cells = true := by
  have hh := h.hash.one
  unfold one1 at *
  rw [Array.all_eq_true_iff_forall_mem] at hh ⊢
  intro v hv
  simp only [AV.cells, Array.mem_push, Array.mem_append] at hv
  rcases hv with (hv | hv) | rfl
  · simp at hv
    rcases hv with rfl | rfl <;> rfl
  · exact hh v hv
  · rfl
theorem Rd.chg {w w' : World} {a : Option Addr} {m : Nat} {xs : List Value} {F : List Nat} (h : Rd w 1 a m xs) (hc : Chg F w w') (hF : ∀ k ∈ F, w.heap.size ≤ k) : Rd w' 1 a m xs := by
  refine ⟨h.1, fun hm => ?_⟩
  obtain ⟨b, o, ha, hcl⟩ := h.2 hm
  refine ⟨b, o, ha, fun j u hu => ?_⟩
  have := hcl j u hu
  have hl : b < w.heap.size := World.block_lt_of_cell? _ _ this
  rw [hc.cell (p := ⟨b, o + j, none⟩) hl (fun e => by have hF2 : w.heap.size ≤ b := hF _ e; omega)]
  exact this
theorem AV.ok.chg {w w' : World} {x : AV} {F : List Nat} (h : x.ok w) (hc : Chg F w w') (hF : ∀ k ∈ F, w.heap.size ≤ k) : x.ok w' := ⟨h.hash, h.what, h.p, h.rd.chg hc hF, h.kl⟩
theorem av0 (x : AV) : x.cells[0]? = some (.int .i64 x.what) := by
  unfold AV.cells
  rw [Array.getElem?_push_lt (by simp; omega), Array.getElem_append_left (by simp)]
  rfl
theorem av1 (x : AV) : x.cells[1]? = some (.int .u64 x.p) := by
  unfold AV.cells
  rw [Array.getElem?_push_lt (by simp; omega), Array.getElem_append_left (by simp)]
  rfl
theorem av2 {x : AV} (h : IsHash x.h) {j : Nat} (hj : j < x.h.size) : x.cells[2 + j]? = some x.h[j] := by
  unfold AV.cells
  rw [Array.getElem?_push_lt (by simp; omega), Array.getElem_append_right (by simp)]
  simp
theorem av34 {x : AV} (h : IsHash x.h) : x.cells[34]? = some (.slice x.a x.kl.length x.cap) := by
  unfold AV.cells
  rw [Array.getElem?_push]
  simp [h.1]
/-- What the act's box tells. -/
structure AB (w : World) (bx : Nat) (x : AV) : Prop where
  c0 : w.cell? ⟨bx, 0, none⟩ = some (.int .i64 x.what)
  c1 : w.cell? ⟨bx, 1, none⟩ = some (.int .u64 x.p)
  ch : rng? w bx 2 32 = some x.h
  c34 : w.cell? ⟨bx, 34, none⟩ = some (.slice x.a x.kl.length x.cap)
  lt : bx < w.heap.size
theorem AB.new {w : World} {x : AV} (h : IsHash x.h) : AB (w.alloc (.cells x.cells 65)) w.heap.size x := by
  have hb := blk_new w (.cells x.cells 65)
  exact ⟨blk_cell hb 0 (av0 x), blk_cell hb 1 (av1 x), rng?_mk h.1 (fun j hj => blk_cell hb (2 + j) (av2 h hj)), blk_cell hb 34 (av34 h), blk_lt hb⟩
theorem AB.chg {w w' : World} {x : AV} {bx : Nat} {F : List Nat} (h : AB w bx x) (hc : Chg F w w') (hF : bx ∉ F) : AB w' bx x :=
  ⟨by rw [hc.cell (p := ⟨bx, 0, none⟩) h.lt hF]; exact h.c0, by rw [hc.cell (p := ⟨bx, 1, none⟩) h.lt hF]; exact h.c1, rng?_chg hc h.ch (by omega) hF, by rw [hc.cell (p := ⟨bx, 34, none⟩) h.lt hF]; exact h.c34, Nat.lt_of_lt_of_le h.lt hc.size⟩
section
variable {w w1 w2 : World} {b c m : Nat} {s : SS} {d : DS}
def ActP (w : World) (b : Nat) (s : SS) (c : Nat) (d : DS) (m : Nat) (e : Ending) (w' : World) : Prop := e = .returned (.bool true) ∧ BothP w b s c d (m + 1) w'
theorem BothP.of (hc : Chg [] w w1) (h : BothP w1 b s c d m w2) : BothP w b s c d m w2 := by
  obtain ⟨s', d', h1, h2, h3⟩ := h
  exact ⟨s', d', h1, (hc.of_nil).trans h2 (fun k hk => .inl hk), fun k hk => (h3 k hk).imp id (fun q => by have := hc.size; omega)⟩
theorem Tw.both0 (h : Tw w b s c d m) (hc : Chg [] w w1) : BothP w b s c d (m + 1) w1 := ⟨s, d, (h.chg0 hc).up (by omega), hc.of_nil, fun k hk => .inl hk⟩
theorem BothP.more (h : BothP w b s c d m w1) (hc : Chg [] w1 w2) : BothP w b s c d m w2 := by
  obtain ⟨s', d', h1, h2, h3⟩ := h
  exact ⟨s', d', h1.chg0 hc, h2.nil_trans hc, h3⟩
theorem P1.ab {m' log : Nat} {ns : List DN} {v : Value} {e : Ending} {x : AV} {bx : Nat} (hp : P1 w b s m' log ns v e w1) (h : AB w bx x) (hb : bx ∉ s.foot b) : AB w1 bx x := by
  obtain ⟨_, s', _, hm, _⟩ := hp
  exact h.chg hm.1 hb
theorem P1.size {m' log : Nat} {ns : List DN} {v : Value} {e : Ending} (hp : P1 w b s m' log ns v e w1) : w.heap.size ≤ w1.heap.size := by
  obtain ⟨_, s', _, hm, _⟩ := hp
  exact hm.1.size
end
end Go.Proofs.Ytonppfebmeehcaa

/- The store: find. -/
import Derived.Test.YtnodjlgihhinpaaDoorStA
namespace Go.Proofs.YtnodjlgihhinpaaDoor
open Go.RowKit
set_option linter.unusedVariables false
set_option linter.unusedSimpArgs false

theorem mget_map {α : Type} (l : List α) (f : α → Nat) (g : α → Value) (a : Nat) : mget (l.map fun x => (f x, g x)) a = (l.find? fun x => decide (f x = a)).map g := by
  induction l with
  | nil => rfl
  | cons x l ih =>
    simp only [mget, List.map_cons, List.find?_cons] at ih ⊢
    by_cases h : f x = a
    · simp [h]
    · simp only [h, decide_false]; exact ih

def SS.fptr (s : SS) (p : Nat) : Option Addr := (s.look p).bind fun x => if ((x.ns[qa s.log p]?).join).isSome then some ⟨x.nb, qa s.log p * 33, none⟩ else none
def ckPtr (o : Option Ck) : Option Addr := o.map fun x => ⟨x.c, 0, none⟩

theorem StIs.cell0 {w : World} {b : Nat} {s : SS} (h : StIs w b s) : w.cell? ⟨b, 0, none⟩ = some (.int .i64 s.log) := blk_cell h.1 0 rfl
theorem StIs.cell1 {w : World} {b : Nat} {s : SS} (h : StIs w b s) : w.cell? ⟨b, 1, none⟩ = some (.int .u64 s.n) := blk_cell h.1 1 rfl
theorem StIs.cell2 {w : World} {b : Nat} {s : SS} (h : StIs w b s) : w.cell? ⟨b, 2, none⟩ = some (.int .u64 s.alive) := blk_cell h.1 2 rfl
theorem StIs.cell3 {w : World} {b : Nat} {s : SS} (h : StIs w b s) : w.cell? ⟨b, 3, none⟩ = some (.map (some s.cm)) := blk_cell h.1 3 rfl
theorem StIs.cell4 {w : World} {b : Nat} {s : SS} (h : StIs w b s) : w.cell? ⟨b, 4, none⟩ = some (.map (some s.pm)) := blk_cell h.1 4 rfl
theorem StIs.drewN {w : World} {b : Nat} {s : SS} (h : StIs w b s) (n : Nat) : StIs (w.drewN n) b s := h.chg0 ((Chg.refl _ _).drewN n)
theorem StIs.blt {w : World} {b : Nat} {s : SS} (h : StIs w b s) : b < w.heap.size := h.lt b (by simp [SS.foot])

theorem StIs.lookc {w : World} {b : Nat} {s : SS} (h : StIs w b s) (p : Nat) : (Instr.lookup 97 (.map (some s.cm)) (.agg #[.int .u64 (qk s.log p)]) false).run Tryd.prog w = .ok (.pointer (ckPtr (s.look p))) w := by
  have := h.2.1.look encK_law u_mapc z_pchunk (qk s.log p) false
  rw [mget_map] at this
  unfold encK at this
  rw [this]
  unfold ckPtr SS.look
  cases s.cks.find? fun x => decide (x.k = qk s.log p) <;> rfl


theorem cellsOf_at (ns : List (Option (Array Value))) (hh : ∀ h, some h ∈ ns → IsHash h) : ∀ (i j : Nat), j < 33 → i < ns.length → (cellsOf ns)[i * 33 + j]? = (nodeCells (ns.getD i none))[j]? := by
  have hl : ∀ o ∈ ns, (nodeCells o).length = 33 := by
    intro o ho
    cases o with
    | none => simp [nodeCells, zeroHash]
    | some h => simp [nodeCells, (hh h ho).1]
  clear hh
  induction ns with
  | nil => intro i j _ hi; simp at hi
  | cons o ns ih =>
    intro i j hj hi
    have ho := hl o (by simp)
    have e : cellsOf (o :: ns) = nodeCells o ++ cellsOf ns := by simp [cellsOf]
    rw [e]
    cases i with
    | zero => rw [List.getElem?_append_left (by omega)]; simp
    | succ i =>
      rw [List.getElem?_append_right (by omega), ho]
      rw [show (i + 1) * 33 + j - 33 = i * 33 + j from by omega, ih (fun o ho => hl o (by simp [ho])) i j hj (by simpa using hi)]
      simp

theorem CkIs.cell {w : World} {x : Ck} (h : CkIs w x) {i j : Nat} (hi : i < x.ns.length) (hj : j < 33) {v : Value} (hv : (nodeCells (x.ns.getD i none))[j]? = some v) : w.cell? ⟨x.nb, i * 33 + j, none⟩ = some v := by
  have := h.2.1.cells (g := x.nb) rfl (i * 33 + j) v (by rw [cellsOf_at x.ns h.2.2.1 i j hj hi]; exact hv)
  rw [show (⟨x.nb, 0, none⟩ : Addr).add (i * 33 + j) = ⟨x.nb, i * 33 + j, none⟩ from by unfold Addr.add; split <;> simp_all] at this
  exact this

theorem CkIs.flag {w : World} {x : Ck} (h : CkIs w x) {i : Nat} (hi : i < x.ns.length) : w.cell? ⟨x.nb, i * 33 + 32, none⟩ = some (.bool (x.ns.getD i none).isSome) := by
  refine h.cell hi (by omega) ?_
  cases hx : x.ns.getD i none with
  | none => simp [nodeCells, zeroHash]
  | some q =>
    have : some q ∈ x.ns := by
      rw [List.getD_eq_getElem?_getD, List.getElem?_eq_getElem hi, Option.getD_some] at hx
      rw [← hx]; exact List.getElem_mem hi
    simp [nodeCells, (h.2.2.1 q this).1]

theorem look_mem {s : SS} {p : Nat} {x : Ck} (h : s.look p = some x) : x ∈ s.cks ∧ x.k = qk s.log p := by
  unfold SS.look at h
  exact ⟨List.mem_of_find?_eq_some h, by simpa using List.find?_some h⟩

theorem find_calls (b p : Nat) (s : SS) (w : World) (h : StIs w b s) (hp : p < 18446744073709551616) :
    Calls Tryd.prog 53 #[.pointer (some ⟨b, 0, none⟩), .int .u64 p] w (Res w [] (.pointer (s.fptr p))) := by
  have hb := h.blt
  have hs := h.2.2.2.2.2.log
  have hc0 := h.cell0
  have hf : Hid (s.fptr p = (s.look p).bind fun x => if ((x.ns[qa s.log p]?).join).isSome then some ⟨x.nb, qa s.log p * 33, none⟩ else none) := rfl
  generalize hfp : s.fptr p = fp at *
  clear hfp
  go_enter Tryd.func53, Tryd.ntmps53
  go_wp2_with (go_at_call 86; refine (spot_calls _ _ _ _ hs hp hb hc0).mono ?_; rintro e w1 ⟨rfl, hc1⟩)
  have h1 := h.chg0 hc1
  generalize hW2 : World.alloc w1 _ = w2
  have hc2 : Chg [] w w2 := by rw [← hW2]; exact hc1.alloc _
  have hk2 : w2.cell? ⟨w1.heap.size, 0, none⟩ = some (.int .u64 (qk s.log p)) := by rw [← hW2]; simp
  have h2 := h.chg0 hc2
  clear hW2 hc0 hc1 h1
  have hl2 : ∀ n, (Instr.lookup 97 (.map (some s.cm)) (.agg #[.int .u64 (qk s.log p)]) false).run Tryd.prog (w2.drewN n) = .ok (.pointer (ckPtr (s.look p))) (w2.drewN n) := fun n => (h2.drewN n).lookc p
  have hc3 := h2.cell3
  cases hlk : s.look p with
  | none =>
    rw [hlk] at hf hl2
    have hlk := Lib.hid hlk
    simp only [ckPtr, Option.map_none] at hl2
    go_quiet (fail)
    go_wp2
    go_ret
    exact ⟨by rw [hf.out]; rfl, hc2.drewN _⟩
  | some x =>
    rw [hlk] at hf hl2
    obtain ⟨hx, hxk⟩ := look_mem hlk
    have hck := h2.2.2.2.1 x hx
    clear hxk hlk
    simp only [ckPtr, Option.map_some] at hl2
    have hx0 : w2.cell? ⟨x.c, 0, none⟩ = some (.slice (some ⟨x.nb, 0, none⟩) x.ns.length x.cap) := blk_cell hck.1 0 rfl
    by_cases hlt : qa s.log p < x.ns.length
    · have hfl := hck.flag hlt
      have hj : Hid ((x.ns[qa s.log p]?).join = x.ns.getD (qa s.log p) none) := by simp [Hid, List.getD_eq_getElem?_getD, List.getElem?_eq_getElem hlt]
      cases hg : x.ns.getD (qa s.log p) none with
      | none =>
        rw [hg] at hfl hj
        simp only [Option.isSome_none] at hfl
        clear hg
        go_quiet (fail)
        go_wp2
        go_ret
        exact ⟨by rw [hf.out]; simp only [Option.bind_some, hj.out]; rfl, hc2.drewN _⟩
      | some q =>
        rw [hg] at hfl hj
        simp only [Option.isSome_some] at hfl
        clear hg
        go_quiet (fail)
        go_wp2
        go_ret
        exact ⟨by rw [hf.out]; simp only [Option.bind_some, hj.out]; rfl, hc2.drewN _⟩
    · have hj : Hid ((x.ns[qa s.log p]?).join = none) := by simp [Hid, List.getElem?_eq_none (show x.ns.length ≤ qa s.log p by omega)]
      go_quiet (fail)
      go_wp2
      go_ret
      exact ⟨by rw [hf.out]; simp only [Option.bind_some, hj.out]; rfl, hc2.drewN _⟩
end Go.Proofs.YtnodjlgihhinpaaDoor

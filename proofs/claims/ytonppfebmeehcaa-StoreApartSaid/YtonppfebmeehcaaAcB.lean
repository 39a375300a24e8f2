/- act: what is done to both (written by wip/tools/acgen.py). -/
import Derived.Test.YtonppfebmeehcaaAcV
import Derived.BigRegion
import Derived.RegionTactic
namespace Go.Proofs.Ytonppfebmeehcaa
open Go.RowKit
set_option linter.unusedVariables false
set_option linter.unusedSimpArgs false
section
variable {w w1 w2 : World} {b c m : Nat} {s : SS} {d : DS} {x : AV}
set_option maxRecDepth 100000 in
set_option maxHeartbeats 2000000 in
theorem act_drop (h : Tw w b s c d m) (hm : m ≤ 1000) (hx : x.ok w) (hw : x.what = 5) : Calls Try.prog 37 #[.pointer (some ⟨b, 0, none⟩), .pointer (some ⟨c, 0, none⟩), .agg x.cells] w (ActP w b s c d m) := by
  have hp64 := hx.p
  have hh := hx.hash
  have hs1 := hx.hash.1
  have hs2 := hx.hash.one
  have hcs := hx.size
  have hco := hx.one
  have hc0 : Chg [] w (w.alloc (.cells x.cells 65)) := (Chg.refl _ _).alloc _
  have hB := AB.new (w := w) hx.hash
  have hbf : w.heap.size ∉ s.foot b := fun hk => by have := h.st.lt _ hk; omega
  have hlen : d.ns.length ≤ 1000 := by have := h.same.n; have := h.n; omega
  have q1 := p1_drop (h.chg0 hc0.drew) hm hp64
  have q2 := fun W (hr : DIs W c d) => rdrop_calls c x.p d W hr
  have k0 := hB.c0
  have k1 := hB.c1
  have k2 := hB.ch
  rw [hw] at k0
  have hbl := hB.lt
  have HJ := fun w1 e1 w2 e2 (h1 : P1 (w.alloc (.cells x.cells 65)).drew b s (m + 1) d.log (dDrop d.ns x.p) (.int .i64 (dDropE d.ns x.p)) e1 w1) (h2 : DP w1 c d (dDrop d.ns x.p) (.int .i64 (dDropE d.ns x.p)) e2 w2) => BothP.of hc0.drew ((h.chg0 hc0.drew).join h1 h2)
  have HK : ∀ e1 w1, P1 (w.alloc (.cells x.cells 65)).drew b s (m + 1) d.log (dDrop d.ns x.p) (.int .i64 (dDropE d.ns x.p)) e1 w1 → w1.cell? ⟨w.heap.size, 1, none⟩ = some (.int .u64 x.p) ∧ rng? w1 w.heap.size 2 32 = some x.h ∧ w.heap.size < w1.heap.size ∧ DIs w1 c d := fun e1 w1 h1 => by
    have hB1 := h1.ab (hB.chg ((Chg.refl [] _).drew) (by simp)) hbf
    exact ⟨hB1.c1, hB1.ch, hB1.lt, (h.chg0 hc0.drew).p1 (F := []) h1⟩
  clear hB
  generalize x.p = p at *
  generalize x.h = H at *
  generalize dDropE d.ns p = E at *
  generalize hbx : w.alloc (.cells x.cells 65) = wb at *
  have HX := Lib.hid hbx
  have hEE : (E == E) = true := by simp
  go_enter Try.func37, Try.ntmps37
  go_wp2
  go_region_with (first
    | (go_at_call 48; refine q1.mono ?_; intro e w2 hp; obtain ⟨t1, t2, t3, t4⟩ := HK _ _ hp; have he := hp.1; subst he)
    | (go_at_call 55; refine (q2 _ t4).mono ?_; intro e2 w3 hq; have he2 := hq.1; subst he2))
  all_goals go_wp2
  all_goals (go_ret; exact ⟨rfl, HJ _ _ _ _ hp hq⟩)
set_option maxRecDepth 100000 in
set_option maxHeartbeats 2000000 in
theorem act_cut (h : Tw w b s c d m) (hm : m ≤ 1000) (hx : x.ok w) (hw : x.what = 8) : Calls Try.prog 37 #[.pointer (some ⟨b, 0, none⟩), .pointer (some ⟨c, 0, none⟩), .agg x.cells] w (ActP w b s c d m) := by
  have hp64 := hx.p
  have hh := hx.hash
  have hs1 := hx.hash.1
  have hs2 := hx.hash.one
  have hcs := hx.size
  have hco := hx.one
  have hc0 : Chg [] w (w.alloc (.cells x.cells 65)) := (Chg.refl _ _).alloc _
  have hB := AB.new (w := w) hx.hash
  have hbf : w.heap.size ∉ s.foot b := fun hk => by have := h.st.lt _ hk; omega
  have hlen : d.ns.length ≤ 1000 := by have := h.same.n; have := h.n; omega
  have q1 := p1_cut (h.chg0 hc0.drew) hm hp64
  have q2 := fun W (hr : DIs W c d) => rcut_calls c x.p d W hr hp64
  have k0 := hB.c0
  have k1 := hB.c1
  have k2 := hB.ch
  rw [hw] at k0
  have hbl := hB.lt
  have HJ := fun w1 e1 w2 e2 (h1 : P1 (w.alloc (.cells x.cells 65)).drew b s (m + 1) d.log (dCut d.ns x.p) (.int .i64 (dCutE d.ns x.p)) e1 w1) (h2 : DP w1 c d (dCut d.ns x.p) (.int .i64 (dCutE d.ns x.p)) e2 w2) => BothP.of hc0.drew ((h.chg0 hc0.drew).join h1 h2)
  have HK : ∀ e1 w1, P1 (w.alloc (.cells x.cells 65)).drew b s (m + 1) d.log (dCut d.ns x.p) (.int .i64 (dCutE d.ns x.p)) e1 w1 → w1.cell? ⟨w.heap.size, 1, none⟩ = some (.int .u64 x.p) ∧ rng? w1 w.heap.size 2 32 = some x.h ∧ w.heap.size < w1.heap.size ∧ DIs w1 c d := fun e1 w1 h1 => by
    have hB1 := h1.ab (hB.chg ((Chg.refl [] _).drew) (by simp)) hbf
    exact ⟨hB1.c1, hB1.ch, hB1.lt, (h.chg0 hc0.drew).p1 (F := []) h1⟩
  clear hB
  generalize x.p = p at *
  generalize x.h = H at *
  generalize dCutE d.ns p = E at *
  generalize hbx : w.alloc (.cells x.cells 65) = wb at *
  have HX := Lib.hid hbx
  have hEE : (E == E) = true := by simp
  go_enter Try.func37, Try.ntmps37
  go_wp2
  go_region_with (first
    | (go_at_call 32; refine q1.mono ?_; intro e w2 hp; obtain ⟨t1, t2, t3, t4⟩ := HK _ _ hp; have he := hp.1; subst he)
    | (go_at_call 59; refine (q2 _ t4).mono ?_; intro e2 w3 hq; have he2 := hq.1; subst he2))
  all_goals go_wp2
  all_goals (go_ret; exact ⟨rfl, HJ _ _ _ _ hp hq⟩)
end
end Go.Proofs.Ytonppfebmeehcaa

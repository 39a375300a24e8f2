/- Texts put into one: AcE AcF. -/
import Derived.Test.YtonppfebmeehcaaAcV
/- act: what changes nothing. -/
namespace Go.Proofs.Ytonppfebmeehcaa
open Go.RowKit
set_option linter.unusedVariables false
set_option linter.unusedSimpArgs false
section
variable {w w1 w2 : World} {b c m : Nat} {s : SS} {d : DS} {x : AV}
set_option maxRecDepth 100000 in
theorem act_get (h : Tw w b s c d m) (hm : m ≤ 1000) (hx : x.ok w) (hw : x.what = 2) : Calls Try.prog 37 #[.pointer (some ⟨b, 0, none⟩), .pointer (some ⟨c, 0, none⟩), .agg x.cells] w (ActP w b s c d m) := by
  have hp64 := hx.p
  have hs1 := hx.hash.1
  have hs2 := hx.hash.one
  have hcs := hx.size
  have hco := hx.one
  have hc0 : Chg [] w (w.alloc (.cells x.cells 65)) := (Chg.refl _ _).alloc _
  have hB := AB.new (w := w) hx.hash
  have k0 := hB.c0
  have k1 := hB.c1
  have hbl := hB.lt
  have hp64 := hx.p
  have hs1 := hx.hash.1
  have hs2 := hx.hash.one
  have hcs := hx.size
  have hco := hx.one
  have hc0 : Chg [] w (w.alloc (.cells x.cells 65)) := (Chg.refl _ _).alloc _
  have hB := AB.new (w := w) hx.hash
  have k0 := hB.c0
  have k1 := hB.c1
  have hbl := hB.lt
  rw [hw] at k0
  have q1 := alike_calls (h.chg0 hc0) hp64
  clear hB
  generalize x.p = p at *
  generalize hbx : w.alloc (.cells x.cells 65) = wb at *
  have HX := Lib.hid hbx
  go_enter Try.func37, Try.ntmps37
  go_wp2_with (go_at_call 51; refine q1.mono ?_; rintro e w1 ⟨rfl, hc1⟩)
  go_ret
  exact ⟨rfl, h.both0 (hc0.nil_trans hc1)⟩
set_option maxRecDepth 100000 in
theorem act_num (h : Tw w b s c d m) (hm : m ≤ 1000) (hx : x.ok w) (hw : x.what = 9) : Calls Try.prog 37 #[.pointer (some ⟨b, 0, none⟩), .pointer (some ⟨c, 0, none⟩), .agg x.cells] w (ActP w b s c d m) := by
  have hp64 := hx.p
  have hs1 := hx.hash.1
  have hs2 := hx.hash.one
  have hcs := hx.size
  have hco := hx.one
  have hc0 : Chg [] w (w.alloc (.cells x.cells 65)) := (Chg.refl _ _).alloc _
  have hB := AB.new (w := w) hx.hash
  have k0 := hB.c0
  have k1 := hB.c1
  have hbl := hB.lt
  have hp64 := hx.p
  have hs1 := hx.hash.1
  have hs2 := hx.hash.one
  have hcs := hx.size
  have hco := hx.one
  have hc0 : Chg [] w (w.alloc (.cells x.cells 65)) := (Chg.refl _ _).alloc _
  have hB := AB.new (w := w) hx.hash
  have k0 := hB.c0
  have k1 := hB.c1
  have hbl := hB.lt
  rw [hw] at k0
  have q1 := numbers_calls (h.chg0 hc0)
  clear hB
  generalize x.p = p at *
  generalize hbx : w.alloc (.cells x.cells 65) = wb at *
  have HX := Lib.hid hbx
  go_enter Try.func37, Try.ntmps37
  go_wp2_with (go_at_call 60; refine q1.mono ?_; rintro e w1 ⟨rfl, hc1⟩)
  go_ret
  exact ⟨rfl, h.both0 (hc0.nil_trans hc1)⟩
set_option maxRecDepth 100000 in
theorem act_all (h : Tw w b s c d m) (hm : m ≤ 1000) (hx : x.ok w) (hw : x.what = 10) : Calls Try.prog 37 #[.pointer (some ⟨b, 0, none⟩), .pointer (some ⟨c, 0, none⟩), .agg x.cells] w (ActP w b s c d m) := by
  have hp64 := hx.p
  have hs1 := hx.hash.1
  have hs2 := hx.hash.one
  have hcs := hx.size
  have hco := hx.one
  have hc0 : Chg [] w (w.alloc (.cells x.cells 65)) := (Chg.refl _ _).alloc _
  have hB := AB.new (w := w) hx.hash
  have k0 := hB.c0
  have k1 := hB.c1
  have hbl := hB.lt
  have hp64 := hx.p
  have hs1 := hx.hash.1
  have hs2 := hx.hash.one
  have hcs := hx.size
  have hco := hx.one
  have hc0 : Chg [] w (w.alloc (.cells x.cells 65)) := (Chg.refl _ _).alloc _
  have hB := AB.new (w := w) hx.hash
  have k0 := hB.c0
  have k1 := hB.c1
  have hbl := hB.lt
  rw [hw] at k0
  have q1 := fun W (hc : Chg [] w W) => told_calls (h.chg0 hc) hm 0 (by omega)
  clear hB
  generalize x.p = p at *
  generalize hbx : w.alloc (.cells x.cells 65) = wb at *
  have HX := Lib.hid hbx
  go_enter Try.func37, Try.ntmps37
  go_wp2_with (first
    | (go_at_call 61; refine (q1 _ (by assumption)).mono ?_; rintro e w1 ⟨rfl, hc1⟩; replace hc0 := hc0.nil_trans hc1))
  go_ret
  exact ⟨rfl, h.both0 hc0⟩
set_option maxHeartbeats 2000000 in
set_option maxRecDepth 100000 in
theorem act_none (h : Tw w b s c d m) (hm : m ≤ 1000) (hx : x.ok w) (hw : ∀ k : Int, 1 ≤ k → k ≤ 11 → x.what ≠ k) : Calls Try.prog 37 #[.pointer (some ⟨b, 0, none⟩), .pointer (some ⟨c, 0, none⟩), .agg x.cells] w (ActP w b s c d m) := by
  have hp64 := hx.p
  have hs1 := hx.hash.1
  have hs2 := hx.hash.one
  have hcs := hx.size
  have hco := hx.one
  have hc0 : Chg [] w (w.alloc (.cells x.cells 65)) := (Chg.refl _ _).alloc _
  have hB := AB.new (w := w) hx.hash
  have k0 := hB.c0
  have k1 := hB.c1
  have hbl := hB.lt
  have hp64 := hx.p
  have hs1 := hx.hash.1
  have hs2 := hx.hash.one
  have hcs := hx.size
  have hco := hx.one
  have hc0 : Chg [] w (w.alloc (.cells x.cells 65)) := (Chg.refl _ _).alloc _
  have hB := AB.new (w := w) hx.hash
  have k0 := hB.c0
  have k1 := hB.c1
  have hbl := hB.lt
  have e : ∀ k : Int, 1 ≤ k → k ≤ 11 → (x.what == k) = false := fun k h1 h2 => by simpa using hw k h1 h2
  have e1 := e 1 (by omega) (by omega)
  have e2 := e 2 (by omega) (by omega)
  have e3 := e 3 (by omega) (by omega)
  have e4 := e 4 (by omega) (by omega)
  have e5 := e 5 (by omega) (by omega)
  have e6 := e 6 (by omega) (by omega)
  have e7 := e 7 (by omega) (by omega)
  have e8 := e 8 (by omega) (by omega)
  have e9 := e 9 (by omega) (by omega)
  have e10 := e 10 (by omega) (by omega)
  have e11 := e 11 (by omega) (by omega)
  clear e hw hB
  generalize x.what = k at *
  generalize hbx : w.alloc (.cells x.cells 65) = wb at *
  have HX := Lib.hid hbx
  go_enter Try.func37, Try.ntmps37
  go_wp2
  go_ret
  exact ⟨rfl, h.both0 hc0⟩
end
end Go.Proofs.Ytonppfebmeehcaa

/- act: All told twice. -/
namespace Go.Proofs.Ytonppfebmeehcaa
open Go.RowKit
set_option linter.unusedVariables false
set_option linter.unusedSimpArgs false
section
variable {w w1 w2 : World} {b c m : Nat} {s : SS} {d : DS} {x : AV}
set_option maxRecDepth 100000 in
set_option maxHeartbeats 2000000 in
theorem act_till (h : Tw w b s c d m) (hm : m ≤ 1000) (hx : x.ok w) (hw : x.what = 11) : Calls Try.prog 37 #[.pointer (some ⟨b, 0, none⟩), .pointer (some ⟨c, 0, none⟩), .agg x.cells] w (ActP w b s c d m) := by
  have hp64 := hx.p
  have hs1 := hx.hash.1
  have hs2 := hx.hash.one
  have hcs := hx.size
  have hco := hx.one
  have hc0 : Chg [] w (w.alloc (.cells x.cells 65)) := (Chg.refl _ _).alloc _
  have hB := AB.new (w := w) hx.hash
  have k0 := hB.c0
  have k1 := hB.c1
  have hbl := hB.lt
  have hp64 := hx.p
  have hs1 := hx.hash.1
  have hs2 := hx.hash.one
  have hcs := hx.size
  have hco := hx.one
  have hc0 : Chg [] w (w.alloc (.cells x.cells 65)) := (Chg.refl _ _).alloc _
  have hB := AB.new (w := w) hx.hash
  have k0 := hB.c0
  have k1 := hB.c1
  have hbl := hB.lt
  rw [hw] at k0
  have q1 := fun W (hc : Chg [] w W) => told_calls (h.chg0 hc) hm 0 (by omega)
  have q2 := fun W (hc : Chg [] w W) => told_calls (h.chg0 hc) hm (x.p % 9) (by omega)
  clear hB
  generalize x.p = p at *
  generalize hbx : w.alloc (.cells x.cells 65) = wb at *
  have HX := Lib.hid hbx
  have hmod : ((p : Int) % 9) = ((p % 9 : Nat) : Int) := by omega
  obtain ⟨r, hr⟩ : ∃ r : Nat, p % 9 = r := ⟨_, rfl⟩
  have hr9 : r < 9 := by omega
  rw [hr] at hmod q2
  clear hr
  go_enter Try.func37, Try.ntmps37
  go_wp2_with (go_at_call 61; first
    | (refine (q2 _ (by assumption)).mono ?_; clear q2; rintro e w1 ⟨rfl, hc1⟩; replace hc0 := hc0.nil_trans hc1)
    | (refine (q1 _ (by assumption)).mono ?_; rintro e w1 ⟨rfl, hc1⟩; replace hc0 := hc0.nil_trans hc1))
  go_ret
  exact ⟨rfl, h.both0 hc0⟩
end
end Go.Proofs.Ytonppfebmeehcaa

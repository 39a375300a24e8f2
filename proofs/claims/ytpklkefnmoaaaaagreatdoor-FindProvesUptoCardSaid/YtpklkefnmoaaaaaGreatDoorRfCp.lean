/- Texts put into one by pack.py: RfC. -/
import Derived.Test.YtpklkefnmoaaaaaGreatDoorPkI
/- The document's hash: bytes as words. -/
namespace Go.Proofs.YtpklkefnmoaaaaaGreatDoor
open Go.RowKit
set_option linter.unusedVariables false
set_option linter.unusedSimpArgs false

def apY (ts : Array TypeId) (ty : TypeId) (xs : Array Value) : Sem Value := Builtin.append_ ts ty xs
theorem hold_apY (ts : Array TypeId) (ty : TypeId) (xs : Array Value) : Builtin.append_ ts ty xs = apY ts ty xs := rfl
attribute [local go_sem ↓] hold_apY
def WordsP (w : World) (l : List Nat) (m : Nat) (e : Ending) (w' : World) : Prop := ∃ v, e = .returned v ∧ UOwn w' w.heap.size v ((List.range m).map (wordN l)) ∧ Chg [] w w'
theorem words_step (b0 b1 b2 b3 : Nat) : (((((b0 : Int) * 256 + b1) * 256 + b2) * 256 + b3)) = ((((b0 * 256 + b1) * 256 + b2) * 256 + b3 : Nat) : Int) := by omega
theorem wordsL_succ (l : List Nat) (k : Nat) : (List.range (k + 1)).map (wordN l) = (List.range k).map (wordN l) ++ [wordN l k] := by rw [List.range_succ, List.map_append]; rfl
set_option maxRecDepth 100000 in
set_option maxHeartbeats 4000000 in
theorem r2words_calls (w : World) (v : Value) (l : List Nat) (m : Nat) (hv : BsIs w v l) (hl : l.length = 4 * m) (hm : m ≤ 64) : Calls Tryz.prog 290 #[v] w (WordsP w l m) := by
  obtain ⟨hb, a, cap, rfl, _, _, hr⟩ := hv
  obtain ⟨w0, rfl⟩ : ∃ w0 : World, w0 = w := ⟨_, rfl⟩
  have hlen : (l.length : Int) = 4 * (m : Int) := by omega
  have HLEN := Lib.hid hlen
  clear hlen
  have hl2 : l.length ≤ 256 := by omega
  go_enter Tryz.func290, Tryz.ntmps290
  go_wp2
  go_loopg [3, 4] m (fun g vv ii wx => ∃ k : Nat, k ≤ m ∧ g = m - k ∧ ii = .int .i64 (4 * k : Nat) ∧ UOwn wx w0.heap.size vv ((List.range k).map (wordN l)) ∧ Chg [] w0 wx)
  case atStart => exact ⟨0, by omega, by omega, rfl, UOwn.nil _ _, Chg.refl _ _⟩
  case round =>
    obtain ⟨k, hk, hg, rfl, hO, hC⟩ := hrel
    by_cases hlt : k < m
    · have hlt' := hlt
      rcases hr with hr | ⟨pb, po, rfl, hpb, hr⟩
      · subst hr; simp at hl; omega
      have hcl := fun (j : Nat) (hj : j < l.length) (W : World) (hW : Chg [] w0 W) => (hW.cell (p := ⟨pb, po + j, none⟩) hpb (by simp)).trans (hr j hj)
      have hS : ∀ W : World, Chg [] w0 W → W.cell? ⟨pb, po + 4 * k, none⟩ = some (.int .u8 (l[4 * k]'(by omega) : Nat)) ∧ W.cell? ⟨pb, po + (4 * k + 1), none⟩ = some (.int .u8 (l[4 * k + 1]'(by omega) : Nat)) ∧ W.cell? ⟨pb, po + (4 * k + 2), none⟩ = some (.int .u8 (l[4 * k + 2]'(by omega) : Nat)) ∧ W.cell? ⟨pb, po + (4 * k + 3), none⟩ = some (.int .u8 (l[4 * k + 3]'(by omega) : Nat)) := fun W hW =>
        ⟨hcl (4 * k) (by omega) W hW, hcl (4 * k + 1) (by omega) W hW, hcl (4 * k + 2) (by omega) W hW, hcl (4 * k + 3) (by omega) W hW⟩
      have c0 := hb _ (List.getElem_mem (show 4 * k < l.length by omega))
      have c1 := hb _ (List.getElem_mem (show 4 * k + 1 < l.length by omega))
      have c2 := hb _ (List.getElem_mem (show 4 * k + 2 < l.length by omega))
      have c3 := hb _ (List.getElem_mem (show 4 * k + 3 < l.length by omega))
      have hw : wordN l k = (((l[4 * k]'(by omega)) * 256 + (l[4 * k + 1]'(by omega))) * 256 + (l[4 * k + 2]'(by omega))) * 256 + (l[4 * k + 3]'(by omega)) := by
        unfold wordN
        simp [List.getD, List.getElem?_eq_getElem (show 4 * k < l.length by omega), List.getElem?_eq_getElem (show 4 * k + 1 < l.length by omega), List.getElem?_eq_getElem (show 4 * k + 2 < l.length by omega), List.getElem?_eq_getElem (show 4 * k + 3 < l.length by omega)]
      have hsu := wordsL_succ l k
      generalize l[4 * k]'(by omega) = b0 at *
      generalize l[4 * k + 1]'(by omega) = b1 at *
      generalize l[4 * k + 2]'(by omega) = b2 at *
      generalize l[4 * k + 3]'(by omega) = b3 at *
      have hst := words_step b0 b1 b2 b3
      rw [← hw] at hst
      have hO2 : UOwn wr.drew w0.heap.size _ ((List.range k).map (wordN l)) := own_chg hO (F := []) ((Chg.refl _ _).drew) (by simp)
      have hlk : ((List.range k).map (wordN l)).length ≤ 64 := by simp; omega
      have hpush := hO2.push (wordN l k) (by omega) (by have := hC.size; exact this) 44
      have hol := own_lt hO2
      rw [← hsu] at hpush
      generalize wordN l k = x at *
      obtain ⟨v2, w2, hrun0, hO3, hc3, hob⟩ := hpush
      have hrun : (apY #[44, 44] 44 #[_, .slice (some ⟨wr.heap.size, 0, none⟩) 1 1]).run Tryz.prog ((wr.alloc (.cells #[.int .u64 x] 38)).drew) = .ok v2 w2 := hrun0
      have hW2 : Chg [] w0 w2 := (hC.drew).trans hc3 (fun j hj => .inr (hol j hj).1)
      have HO3 := Lib.hid hO3
      have HG := Lib.hid hg
      have HW := Lib.hid hw
      generalize hj : 4 * k = j at *
      have HJ : Shut (4 * k = j) := ⟨hj⟩
      have hjl : j + 3 < l.length := by omega
      have hjb : j ≤ 252 := by omega
      clear hj hw hsu hO hO2 hO3 hob hc3 hrun0 hcl hg hr hb hlk hol hl
      have q0 : ((j : Int) + 1).toNat = j + 1 := by omega
      have q1 : ((j : Int) + 2).toNat = j + 2 := by omega
      have q2 : ((j : Int) + 3).toNat = j + 3 := by omega
      have i1 : IntKind.i64.wrap ((j : Int) + 1) = (j : Int) + 1 := IntWalk.i64_in _ (by omega)
      have i2 : IntKind.i64.wrap ((j : Int) + 2) = (j : Int) + 2 := IntWalk.i64_in _ (by omega)
      have i3 : IntKind.i64.wrap ((j : Int) + 3) = (j : Int) + 3 := IntWalk.i64_in _ (by omega)
      have z0 : (0 : Int) ≤ (j : Int) := by omega
      have z1 : (0 : Int) ≤ (j : Int) + 1 := by omega
      have z2 : (0 : Int) ≤ (j : Int) + 2 := by omega
      have z3 : (0 : Int) ≤ (j : Int) + 3 := by omega
      have u0 : (j : Int) < (l.length : Int) := by omega
      have u1 : (j : Int) + 1 < (l.length : Int) := by omega
      have u2 : (j : Int) + 2 < (l.length : Int) := by omega
      have u3 : (j : Int) + 3 < (l.length : Int) := by omega
      have k0 : IntKind.u64.wrap (b0 : Int) = b0 := by rw [IntKind.wrap_u64]; omega
      have k1 : IntKind.u64.wrap (b1 : Int) = b1 := by rw [IntKind.wrap_u64]; omega
      have k2 : IntKind.u64.wrap (b2 : Int) = b2 := by rw [IntKind.wrap_u64]; omega
      have k3 : IntKind.u64.wrap (b3 : Int) = b3 := by rw [IntKind.wrap_u64]; omega
      have m0 : IntKind.u64.wrap ((b0 : Int) * 256) = (b0 : Int) * 256 := by rw [IntKind.wrap_u64]; omega
      have s0 : IntKind.u64.wrap ((b0 : Int) * 256 + b1) = (b0 : Int) * 256 + b1 := by rw [IntKind.wrap_u64]; omega
      have m1 : IntKind.u64.wrap (((b0 : Int) * 256 + b1) * 256) = ((b0 : Int) * 256 + b1) * 256 := by rw [IntKind.wrap_u64]; omega
      have s1 : IntKind.u64.wrap (((b0 : Int) * 256 + b1) * 256 + b2) = ((b0 : Int) * 256 + b1) * 256 + b2 := by rw [IntKind.wrap_u64]; omega
      have m2 : IntKind.u64.wrap ((((b0 : Int) * 256 + b1) * 256 + b2) * 256) = (((b0 : Int) * 256 + b1) * 256 + b2) * 256 := by rw [IntKind.wrap_u64]; omega
      have s2 : IntKind.u64.wrap ((((b0 : Int) * 256 + b1) * 256 + b2) * 256 + b3) = (x : Int) := by rw [hst, IntKind.wrap_u64]; omega
      clear hst
      have hpw : pb < wr.heap.size := Nat.lt_of_lt_of_le hpb hC.size
      go_upto_region 5 with (fail)
      go_region_held3 (fun W => W.cell? ⟨pb, po + j, none⟩ = some (.int .u8 (b0 : Int)) ∧ W.cell? ⟨pb, po + (j + 1), none⟩ = some (.int .u8 (b1 : Int)) ∧ W.cell? ⟨pb, po + (j + 2), none⟩ = some (.int .u8 (b2 : Int)) ∧ W.cell? ⟨pb, po + (j + 3), none⟩ = some (.int .u8 (b3 : Int))) (first | exact hS _ hC.drew | exact hS _ (hC.alloc _).drew | exact hS _ hW2) (fail)
      all_goals
        go_wp2
        go_roundg (m - (k + 1))
        case measure => rw [HG.out]; omega
        case rel => exact ⟨k + 1, by omega, rfl, by have := HJ.out; go_num, HO3.out, hW2⟩
    · obtain rfl : k = m := by omega
      have ht : decide (((4 * k : Nat) : Int) + 3 < (l.length : Int)) = false := decide_eq_false (by omega)
      clear hg hr
      go_wp2
      go_ret
      exact ⟨_, rfl, hO, hC⟩
end Go.Proofs.YtpklkefnmoaaaaaGreatDoor

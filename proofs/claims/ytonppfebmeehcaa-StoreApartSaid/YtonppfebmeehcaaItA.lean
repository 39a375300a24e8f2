/- maps.Keys at the store's chunks, and its iterator: contracts. -/
import Derived.Test.YtonppfebmeehcaaMapRng
import Derived.Test.YtonppfebmeehcaaRfn
import Derived.Test.YtonppfebmeehcaaSt
import Derived.RangeFuncCalls
import Derived.Shelf.Abstract
import Derived.Shelf.RegionOpen
import Derived.WalkKit
import Derived.OwnWalkIn
import Derived.TacticsInMore
import Derived.LoopNIn
import Derived.LoopIn
namespace Go.Proofs.Ytonppfebmeehcaa
open Go.RowKit Go.Shelf
set_option linter.unusedVariables false
set_option linter.unusedSimpArgs false
attribute [local go_sem] Oper.semAt_some

/-- Some of these, in some order. -/
def KeysSome {K : Type} (l : List K) (pre : List K) : Prop := ∃ rest, (pre ++ rest).Perm l
theorem KeysSome.le {K : Type} {l pre : List K} (h : KeysSome l pre) : pre.length ≤ l.length := by
  obtain ⟨rest, h⟩ := h
  have := h.length_eq
  simp at this
  omega
set_option maxRecDepth 100000 in
set_option maxHeartbeats 2000000 in
theorem keys_seq (B cm : Nat) (m : List (Nat × Value)) (w : World) (hb : w.heap[B]? = some (.cells #[.map (some cm)] 77 (0, 0))) (hm : MapIs encK w cm m) :
    Seq Try.prog 84 #[.pointer (some ⟨B, 0, none⟩)] (fun k => #[encK k]) (fun ks => ks.Perm (m.map (·.1))) (KeysSome (m.map (·.1))) [B, cm] w := by
  intro l J Jx W D hcW hJ hJx hY h0 hD
  have hc : W.cell? ⟨B, 0, none⟩ = some (.map (some cm)) := blk_cell (hcW.at hb (by simp)) 0 rfl
  have hmW : MapIs encK W cm m := hm.chg hcW (by simp)
  have hcl := hmW.lt
  clear hb hm hcW
  refine callsIn_of_wp Try.func84 rfl trivial ?_ rfl
  simp only [Try.ntmps84, List.size_toArray, List.length_cons, List.length_nil, Nat.reduceAdd, Nat.reduceSub, Array.replicate_succ, Array.replicate_zero, List.push_toArray, List.append_toArray, List.nil_append, List.cons_append]
  gi_wp2_with (first
    | (gi_at_range; refine wpIn_mrange _ rfl _ rfl u_mapc rfl hmW ?_; intro w0 hrg0 hc0 hs0)
    | gi_in)
  gi_loopw [3] (fun _ wr => ∃ pre cnt D, RngIs encK wr cm W.heap.size m pre cnt ∧ KeysSome (m.map (·.1)) pre ∧ J pre D wr ∧ (∀ k ∈ D, k < wr.heap.size ∧ k ≠ cm ∧ k ≠ W.heap.size))
    (fun _ wr => rngLeft wr cm W.heap.size)
  case atStart =>
    exact ⟨[], _, D, hrg0, hrg0.rest, hJ _ _ _ _ [] h0 hc0 (by simp), fun k hk => by have := hD k hk; refine ⟨by omega, ?_, by omega⟩; intro e; subst e; exact this.2 (by simp)⟩
  case round =>
    obtain ⟨pre, cnt, D1, hrg, hks, hj, hd⟩ := hrel
    gi_wp2_with (first
      | (gi_at_next; refine wpIn_mnext _ rfl _ rfl encK_law rfl hrg ?_ ?_)
      | gi_in)
    · intro hc0 hp
      gi_wp2
      go_end0
      exact ⟨⟨_, rfl⟩, .inl ⟨pre, D1, hp, hj⟩⟩
    · intro k v w2 hkv hkp hrg2 hpos hc2 hs2 hen
      have hks2 : KeysSome (m.map (·.1)) (pre ++ [k]) := hrg2.rest
      have hj2 : J pre D1 (w2.alloc (.cells #[.int .u64 (k : Nat)] 102)) := hJ _ _ _ _ [W.heap.size] hj ((hc2).nil_trans ((Chg.refl _ _).alloc _)) (by intro y hy; simp at hy; subst hy; exact ⟨fun h => (hd _ h).2.2 rfl, Nat.le_refl _⟩)
      obtain ⟨fn, tmps, assign, body, hy, hR⟩ := hY pre k _ D1 hj2 (fun y hy => by have := (hd y hy).1; simp; omega) hks2
      have hrg3 : RngIs encK (w2.alloc (.cells #[.int .u64 (k : Nat)] 102)) cm W.heap.size m (pre ++ [k]) (cnt - 1) := hrg2.chg ((Chg.refl [] _).alloc _) (by simp) (by simp)
      have hz2 := hs2
      have HL := Lib.hid hrg.left
      have hsl := hrg.lt.1
      clear hrg hrg2 hs2 hc2 hj hj2 hrg0
      unfold encK at hy hen
      gi_wp2
      refine ⟨rfl, hR.mono ?_⟩
      rintro e w3 ⟨D3, hd3, hc3, (⟨rfl, hj3⟩ | ⟨rfl, hj3⟩)⟩
      · gi_wp2
        have hrg4 := hrg3.chg hc3 (fun h => (hd _ h).2.1 rfl) (fun h => (hd _ h).2.2 rfl)
        go_roundw
        case rel => exact ⟨pre ++ [k], cnt - 1, D3, hrg4, hks2, hj3, fun y hy => ⟨(hd3 y hy).1, by
          rcases (hd3 y hy).2 with q | q
          · exact (hd y q).2.1
          · simp at q; omega, by
          rcases (hd3 y hy).2 with q | q
          · exact (hd y q).2.2
          · simp at q; omega⟩⟩
        case measure => rw [hrg4.left, HL.out]; omega
      · gi_wp2
        refine bodyPost_ret (results_none rfl _ _ _) rfl ?_
        exact ⟨⟨_, rfl⟩, .inr ⟨pre ++ [k], D3, hks2, hj3⟩⟩
theorem keys_calls (mb : Option Nat) (w : World) : Calls Try.prog 68 #[.map mb] w fun e w' => e = .returned (.func (.func 84) #[] #[.pointer (some ⟨w.heap.size, 0, none⟩)]) ∧ w' = w.alloc (.cells #[.map mb] 77) := by
  go_enter Try.func68, Try.ntmps68
  go_wp2
  go_ret
  exact ⟨rfl, rfl⟩
end Go.Proofs.Ytonppfebmeehcaa

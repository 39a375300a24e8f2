/- Acts that came in; weight. -/
import Derived.Test.YtonppfebmeehcaaAcV
import Derived.Deep.LoopGhost
namespace Go.Proofs.Ytonppfebmeehcaa
open Go.RowKit
set_option linter.unusedVariables false
set_option linter.unusedSimpArgs false
/-- A list of acts that came in. -/
def ActsIs (w : World) (v : Value) (l : List AV) : Prop :=
  (∀ x ∈ l, x.ok w ∧ x.kl.length ≤ 35184372088832) ∧ l.length ≤ 35184372088832 ∧ ∃ a cap, v = .slice a l.length cap ∧ (l = [] ∨ ∃ b o, a = some ⟨b, o, none⟩ ∧ b < w.heap.size ∧ ∀ i (hi : i < l.length), rng? w b (o + i * 35) 35 = some l[i].cells)
def wt (l : List AV) : Nat := (l.map fun x => 1 + x.kl.length).sum
theorem wt_take {l : List AV} {k : Nat} (hk : k < l.length) : wt (l.take (k + 1)) = wt (l.take k) + (1 + l[k].kl.length) := by
  unfold wt
  rw [List.take_succ_eq_append_getElem hk, List.map_append, List.sum_append]
  simp
theorem wt_le (l : List AV) (k : Nat) : wt (l.take k) ≤ wt l := by
  have : wt l = wt (l.take k) + wt (l.drop k) := by
    unfold wt
    rw [← List.sum_append, ← List.map_append, List.take_append_drop]
  omega
theorem wt_len (l : List AV) : l.length ≤ wt l := by
  unfold wt
  induction l with
  | nil => simp
  | cons x l ih => simp; omega
theorem wt_mem {l : List AV} {x : AV} (h : x ∈ l) : x.kl.length < wt l := by
  unfold wt
  induction l with
  | nil => simp at h
  | cons y l ih =>
    simp
    rcases List.mem_cons.1 h with rfl | h
    · omega
    · have := ih h; omega
def WtP (w : World) (l : List AV) (e : Ending) (w' : World) : Prop := ∃ n : Nat, e = .returned (.int .i64 n) ∧ (300 < n ↔ 300 < wt l) ∧ n ≤ 70368744177664 ∧ Chg [] w w'
set_option maxRecDepth 100000 in
theorem weight_calls (v : Value) (l : List AV) (w : World) (h : ActsIs w v l) : Calls Try.prog 34 #[v] w (WtP w l) := by
  obtain ⟨hok, hlen, a, cap, rfl, hr⟩ := h
  have hle := fun k => wt_le l k
  have hst := fun k (hk : k < l.length) => wt_take hk
  have h0 : wt (l.take 0) = 0 := rfl
  go_enter Try.func34, Try.ntmps34
  go_wp2_with fail
  go_loopg [3, 4] l.length (fun m n i wr => ∃ k : Nat, k ≤ l.length ∧ m = l.length - k ∧ wt (l.take k) ≤ 70368744177664 ∧ n = .int .i64 (wt (l.take k) : Nat) ∧ i = .int .i64 k ∧ wr = w)
  case atStart => exact ⟨0, Nat.zero_le _, by omega, by omega, by rw [h0]; rfl, rfl, rfl⟩
  case round =>
    obtain ⟨k, hk, hgk, hb, rfl, rfl, rfl⟩ := hrel
    by_cases hlt : k < l.length
    · have hs := hst k hlt
      have hle2 := hle k
      by_cases hn : wt (l.take k) ≤ 300
      · rcases hr with rfl | ⟨ab, ao, rfl, hab, hr⟩
        · simp at hlt
        have hrk := hr k hlt
        obtain ⟨hx, hxl⟩ := hok l[k] (List.getElem_mem hlt)
        have hc34 := (rng?_cell hrk).2 34 (by rw [hx.size]; omega)
        have e34 := av34 hx.hash
        rw [Array.getElem?_eq_getElem (by rw [hx.size]; omega)] at e34
        rw [Option.some.inj e34] at hc34
        have HS := Lib.hid hs
        have dn : decide ((wt (l.take k) : Int) ≤ 300) = true := by simp; omega
        clear hs hst hle hok hr hrk e34 hx h0 hle2
        generalize l[k] = x at *
        generalize wt (l.take k) = W at *
        go_wp2
        go_roundg (l.length - (k + 1))
        case measure => omega
        case rel => exact ⟨k + 1, by omega, rfl, by rw [HS.out]; omega, by rw [HS.out]; go_num, by go_num, rfl⟩
      · have dn : decide ((wt (l.take k) : Int) ≤ 300) = false := by simp; omega
        have hfin : 300 < wt l := by omega
        clear hst hle hok hr hs h0 hle2
        generalize wt (l.take k) = W at *
        go_wp2
        go_ret
        exact ⟨W, rfl, by omega, hb, Chg.refl _ _⟩
    · obtain rfl : k = l.length := by omega
      have ht : wt (l.take l.length) = wt l := by rw [List.take_length]
      have HT := Lib.hid ht
      have dn : decide ((l.length : Int) < (l.length : Int)) = false := by simp
      clear hst hle hok hr h0 hlt ht
      obtain ⟨W, hW⟩ : ∃ W, wt (l.take l.length) = W := ⟨_, rfl⟩
      rw [hW] at hb ⊢
      have HW := Lib.hid hW
      clear hW
      go_wp2
      go_ret
      exact ⟨W, rfl, by rw [← HW.out, HT.out], hb, Chg.refl _ _⟩
end Go.Proofs.Ytonppfebmeehcaa

/- MmrOld walked. -/
import Derived.Test.YtogkfjljdmbogaaDoorLwA
namespace Go.Proofs.YtogkfjljdmbogaaDoor
open Go.RowKit
set_option linter.unusedVariables false
set_option linter.unusedSimpArgs false

set_option maxRecDepth 100000 in
set_option maxHeartbeats 8000000 in
theorem old_walk (w : World) (wd : Int) (hwd : -9223372036854775808 ≤ wd ∧ wd < 9223372036854775808) (lv : Value) (ls : List (Array Value)) (hv : HsIs w lv ls) (hlen : ls.length ≤ 200) (hk : HIs w)
    (haw : ∀ W, HIs W → Calls Tryd.prog 13 #[] W (Res W [] (.bool true))) :
    Calls Tryd.prog 5 #[.int .i64 wd, lv] w (Res w [] (.bool true)) := by
  have hv0 := hv
  obtain ⟨hI, a, cap, rfl, hr⟩ := hv
  have hnew := tnew_ok w wd hwd 0 (by omega) hk
  rw [show ((0 : Nat) : Int) = 0 from rfl] at hnew
  have hgt : decide ((200 : Int) < (ls.length : Int)) = false := decide_eq_false (by omega)
  go_enter Tryd.func5, Tryd.ntmps5
  go_wp2_with (first
    | (go_at_call 14; refine hnew.mono ?_; rintro e w1 ⟨b, t, rfl, h1, h2, h3, h4, h5, h6, h7, h8, h9⟩; have hroot := tRoot_calls w1 b t h1 (by omega) (hk.chg0 h2); have hRi := rootAt_is h1 0; have hfu := TFull.zero h5 h6 h7; rw [hfu.root, h5] at hroot; have HR := Lib.hid hroot; have hRs := hRi.1; clear hroot)
    | (go_at_call 18; refine HR.out.mono ?_; rintro e w2 ⟨rfl, hc2⟩))
  have hcW : Chg [] w1 (w2.alloc (.cells (rootAt t 0) 26)) := hc2.alloc _
  have hI0 : OldI w (w2.alloc (.cells (rootAt t 0) 26)) b 0 t (.slice (some ⟨w2.heap.size, 0, none⟩) 1 1) [rootAt t 0] := by
    have hs12 := hc2.size
    have hs01 := h2.size
    refine ⟨h1.chg0 hcW, hfu, h5, h3, ⟨?_, by simpa using hRi⟩, ?_, rfl, ?_, h2.nil_trans hcW⟩
    · have := own_new w2 w.heap.size 26 32 1 (rootAt t 0) (by omega) (by rw [hRs]) (by unfold maxLen; omega)
      simpa using this
    · intro x hx hf
      rw [ob_some] at hx
      simp at hx
      subst hx
      have := h1.lt _ hf
      omega
    · intro n hn
      have : n = 0 := by simp at hn; omega
      subst this
      rfl
  clear hnew HR
  generalize w2.alloc (.cells (rootAt t 0) 26) = w3 at *
  clear h1 h2 h3 h4 h6 h7 h8 h9 hRi hfu hRs hc2 hcW
  obtain ⟨w0, rfl⟩ : ∃ w0 : World, w0 = w := ⟨_, rfl⟩
  go_loopg [7, 8] ls.length (fun g vv ii wx => ∃ (k : Nat) (t : TS) (rs : List (Array Value)), k ≤ ls.length ∧ g = ls.length - k ∧ ii = .int .i64 k ∧ OldI w0 wx b k t vv rs)
  case atStart => exact ⟨0, t, _, by omega, by omega, rfl, hI0⟩
  case round =>
    clear hI0 h5
    obtain ⟨k, t, rs, hkl, hg, rfl, hO⟩ := hrel
    by_cases hlt : k < ls.length
    · have hlt' : k < ls.length := hlt
      rcases hr with hr | ⟨pb, po, rfl, hpb, hr⟩
      · subst hr; simp at hlt'
      have hrow := rng?_chg hO.chg (hr k hlt') (by omega) (by simp)
      have hlk := World.block_lt_of_cell? _ _ ((rng?_cell hrow).2 0 (by rw [(rng?_cell hrow).1]; omega))
      have hIk := hI ls[k] (List.getElem_mem hlt')
      have hnb := nodes_le k
      have hsz := hO.size
      have hsn := hO.full.n
      have hsa := hO.full.al
      rw [hsz] at hsn
      have happ := append_calls wr b t ls[k] hO.tr hIk (hk.chg0 hO.chg) (by omega) (by rw [hsz]; exact hsn) (by omega)
      have hnx := fun (e : Ending) (w2 : World) (h : AppP wr b t ls[k] e w2) => hO.app (Chg.refl _ _) h
      have hol := hO.len
      have HNX := Lib.hid hnx
      have HAP := Lib.hid happ
      have HG := Lib.hid hg
      have HOL := Lib.hid hol
      have HO := Lib.hid hO
      clear hnx happ hO hI hr hsn hsa hsz hol hg hnb hIk
      generalize ls[k] = x at *
      go_wp2_with (first
        | (go_at_call 20; refine HAP.out.mono ?_; intro e w4 hp; obtain ⟨he, t', k1, k2, k3, k4, k5, k6, k7, k8⟩ := HNX.out e w4 hp; subst he; have hroot := tRoot_calls w4 b t' k1 (by omega) (hk.chg0 k8); rw [k2.root, k3] at hroot; have HR := Lib.hid hroot; have hRi := rootAt_is k1 (k + 1); have hRs := hRi.1; have hRo := hRi.one; have K3 := Lib.hid k3; clear hroot hp k3)
        | (go_at_call 18; refine HR.out.mono ?_; rintro e w5 ⟨rfl, hc5⟩; obtain ⟨v6, w6, hrun, hO6, hc6, hob6⟩ := (k5.chg hc5 (by simp)).push (rootAt t' (k + 1)) hRi (by have := HOL.out; omega) (by have := k8.size; have := hc5.size; omega) 23; have HO6 := Lib.hid hO6; have HC6 := Lib.hid hc6; have HOB6 := Lib.hid hob6; clear hO6 hc6 hob6)
        | (at_builtin; refine Lib.wpList_append_run _ rfl _ _ _ _ rfl _ _ rfl rfl _ _ hrun ?_))
      go_roundg (ls.length - (k + 1))
      case measure => rw [HG.out]; omega
      case rel => exact ⟨k + 1, t', _, by omega, rfl, by go_num, OldI.push k1 k2 K3.out k4 k5 k6 k7 k8 hc5 HO6.out HC6.out HOB6.out HOL.out⟩
    · obtain rfl : k = ls.length := by omega
      clear hg hr hI hlt hkl
      go_wp2
      obtain ⟨wo, rfl⟩ : ∃ wo : World, wo = wr := ⟨_, rfl⟩
      obtain ⟨hHi, va, vcap, hvv, hvr⟩ := hO.own.hs
      subst hvv
      have hol := hO.len
      have HO := Lib.hid hO
      clear hO
      go_loopg [9] rs.length (fun g ii wx => ∃ n : Nat, n ≤ rs.length ∧ g = rs.length - n ∧ ii = .int .i64 n ∧ Chg [] wo wx)
      case atStart => exact ⟨0, by omega, by omega, rfl, Chg.refl _ _⟩
      case round =>
        obtain ⟨n, hnl, hg, rfl, hC⟩ := hrel
        by_cases hlt : n < rs.length
        · have hlt' : n < rs.length := hlt
          rcases hvr with hvr | ⟨qb, qo, rfl, hqb, hvr⟩
          · subst hvr; simp at hlt'
          have htr := HO.out.tr.chg0 hC
          have hsz := HO.out.size
          have hold := tOld_calls wr b t n htr (by omega) (by omega) (hk.chg0 (HO.out.chg.nil_trans hC))
          have hold2 := hold.mono (R' := Res wr [] (.tuple #[.agg (rootAt t n), .int .i64 0])) fun e w' h => HO.out.full.old (by omega) (by omega) h
          have hRi := rootAt_is htr n
          have hrow := hvr n hlt'
          rw [HO.out.at_ n hlt'] at hrow
          have hnb : n < 300 := by omega
          have hrl : rs.length < 300 := by omega
          have HRW := Lib.hid hrow
          have HOD := Lib.hid hold2
          have HG := Lib.hid hg
          have HOL := Lib.hid hol
          have hRs := hRi.1
          have hRo := hRi.one
          have heq : eqH (rootAt t n) (rootAt t n) = true := eqH_self
          clear hold hold2 hsz hrow hg hvr htr hol
          generalize rootAt t n = R at *
          go_upto_region 16 with (go_at_call 21; refine HOD.out.mono ?_; rintro e w4 ⟨rfl, hc4⟩)
          have hcX : Chg [] wo (w4.alloc (.cells R 26)) := (hC.nil_trans hc4).alloc _
          have r1 := rng?_chg hcX HRW.out (by omega) (by simp)
          have r2 := rng?_alloc_at w4 w4.heap.size 32 R 26 rfl hRs
          have n0 : (0 : Int) ≤ (n : Int) := by omega
          have n1 : (n : Int) < (rs.length : Int) := by omega
          have hqb2 : qb < (w4.alloc (.cells R 26)).heap.size := Nat.lt_of_lt_of_le hqb hcX.size
          have hlx := World.block_lt_of_cell? _ _ ((rng?_cell r2).2 0 (by omega))
          generalize w4.alloc (.cells R 26) = w5 at *
          generalize w4.heap.size = g4 at *
          clear hc4 hC hqb
          go_quiet (fail)
          go_wp2
          go_roundg (rs.length - (n + 1))
          case measure => rw [HG.out]; omega
          case rel => exact ⟨n + 1, by omega, rfl, by go_num, hcX.drewN _⟩
        · obtain rfl : n = rs.length := by omega
          have htr := HO.out.tr.chg0 hC
          have hsz := HO.out.size
          have hold := tOld_far wr b t (ls.length + 1) htr (by omega) (by omega) (by omega)
          rw [← hol] at hold
          have hrl : rs.length < 300 := by omega
          have hkw : HIs wr := hk.chg0 (HO.out.chg.nil_trans hC)
          have hcw := HO.out.chg.nil_trans hC
          have HOD := Lib.hid hold
          clear hold hsz htr hg hvr hol
          go_wp2_with (first
            | (go_at_call 21; refine HOD.out.mono ?_; rintro e w4 ⟨rfl, hc4⟩; have hk4 : HIs (w4.alloc (.cells zeroHash 26)) := hkw.chg0 (hc4.alloc _))
            | (go_at_call 13; refine (haw _ hk4).mono ?_; rintro e w5 ⟨rfl, hc5⟩))
          go_ret
          exact ⟨rfl, (hcw.nil_trans (hc4.alloc _)).nil_trans hc5⟩
end Go.Proofs.YtogkfjljdmbogaaDoor

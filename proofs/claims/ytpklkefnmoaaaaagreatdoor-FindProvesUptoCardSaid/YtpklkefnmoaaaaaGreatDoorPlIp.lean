/- Texts put into one by pack.py: PlI. -/
import Derived.Test.YtpklkefnmoaaaaaGreatDoorMpEp
/- The document's tree: At of up to 1000 places (MpE's walk, with a wider bound). -/
namespace Go.Proofs.YtpklkefnmoaaaaaGreatDoor
open Go.RowKit
set_option linter.unusedVariables false
set_option linter.unusedSimpArgs false
set_option maxRecDepth 100000 in
set_option maxHeartbeats 8000000 in
theorem r6atL_calls (w : World) (rb : Nat) (r : RT) (hr : RtIs w rb r) (pv : Value) (ps : List Nat) (B : Nat) (hU : UOwn w B pv ps) (hplt : ∀ p ∈ ps, p < 18446744073709551616) (hpl : ps.length ≤ 1000) :
    Calls Tryz.prog 26 #[.pointer (some ⟨rb, 0, none⟩), pv] w (AtG (dE r.d) (dH r.d) ps w) := by
  obtain ⟨w0, rfl⟩ : ∃ w0 : World, w0 = w := ⟨_, rfl⟩
  obtain ⟨pa, pcap, rfl, hpc⟩ := hU.cells
  clear hU
  go_enter Tryz.func26, Tryz.ntmps26
  go_wp2
  go_loopg [6, 7] ps.length (fun g vv ii wx => ∃ i : Nat, i ≤ ps.length ∧ g = ps.length - i ∧ ii = .int .i64 i ∧ HOwn wx w0.heap.size vv ((ps.take i).map (dH r.d)) ∧ (∀ p ∈ ps.take i, dE r.d p = 0) ∧ Chg [] w0 wx)
  case atStart => exact ⟨0, by omega, by omega, rfl, HOwn.nil _ _, by simp, Chg.refl _ _⟩
  case round =>
    obtain ⟨i, hi, hg, rfl, hO, hE, hC⟩ := hrel
    by_cases hlt : i < ps.length
    · have hlt' : i < ps.length := hlt
      rcases hpc with hpc | ⟨pb, po, rfl, hpb, hpc⟩
      · subst hpc; simp at hlt'
      have hcell := (hC.cell (p := ⟨pb, po + i, none⟩) hpb (by simp)).trans (hpc i hlt')
      have hbl := World.block_lt_of_cell? _ _ hcell
      have htk : ps.take (i + 1) = ps.take i ++ [ps[i]] := List.take_succ_eq_append_getElem hlt'
      have htr := hr.chg0 hC
      have c2 := blk_cell htr.mem 2 rfl
      have hbr := blk_lt htr.mem
      have hget : ∀ (W : World), Chg [] wr W → Calls Tryz.prog 112 #[.pointer (some ⟨r.c, 0, none⟩), .int .u64 ps[i]] W (Res W [] (.tuple #[.agg (dH r.d ps[i]), .int .i64 (dE r.d ps[i])])) := fun W hc => rget_calls r.c ps[i] r.d W (htr.st.chg0 hc)
      have hgi : IsHash (dH r.d ps[i]) := htr.st.getOk ps[i]
      have hH1 := hgi.1
      have hH2 := hgi.one
      have hpush := fun (W : World) (hc : Chg [] wr W) => (hO.chg hc (by simp)).push (dH r.d ps[i]) hgi (by rw [List.length_map, List.length_take]; omega) (by have := hC.size; have := hc.size; omega) 39
      have hj : ∀ j (hj : j < i), dE r.d ps[j] = 0 := fun j hj => hE _ (by have := List.getElem_mem (l := ps.take i) (n := j) (by rw [List.length_take]; omega); rwa [List.getElem_take] at this)
      have hE2 : dE r.d ps[i] = 0 → ∀ p ∈ ps.take (i + 1), dE r.d p = 0 := fun h0 p hp => by
        rw [htk] at hp
        rcases List.mem_append.1 hp with q | q
        · exact hE p q
        · rw [List.mem_singleton.1 q]; exact h0
      have hmap : (ps.take (i + 1)).map (dH r.d) = (ps.take i).map (dH r.d) ++ [dH r.d ps[i]] := by rw [htk, List.map_append]; rfl
      have hfin : dE r.d ps[i] ≠ 0 → ∀ W, Chg [] w0 W → AtG (dE r.d) (dH r.d) ps w0 (.returned (.tuple #[.slice none 0 0, .int .i64 (dE r.d ps[i])])) W := fun h0 W hW => by
        refine ⟨none, 0, by rw [atE_first i hlt' hj h0, atL_first i hlt' h0]; rfl, ?_, hW⟩
        rw [atL_first i hlt' h0]
        exact HOwn.nil _ _
      have HM := Lib.hid hmap
      have HE2 := Lib.hid hE2
      have HP := Lib.hid hpush
      have HO := Lib.hid hO
      have HF := Lib.hid hfin
      have HG := Lib.hid hg
      clear htk hmap hE hE2 hpush hO hgi hplt hpc hj htr hfin hg
      generalize ps[i] = p at *
      generalize dH r.d p = H at *
      generalize dE r.d p = E at *
      go_upto_region 5 with (fail)
      go_cut [8, 9] from 16 to 27 (fun v8 v9 wx => v9 = .int .i64 E ∧ ∃ g, v8 = .pointer (some ⟨g, 0, none⟩) ∧ Chg [] wr wx ∧ rng? wx g 0 32 = some H)
      case first =>
        go_region_with (first
          | (go_at_call 112; (with_reducible refine (hget _ (Chg.refl _ _).drew).mono ?_); rintro e w3 ⟨rfl, hc3⟩; have hC3 : Chg [] wr w3 := ((Chg.refl [] wr).drew).nil_trans hc3)
          | (go_at_call 112; (with_reducible refine (hget _ ((Chg.refl _ _).alloc _).drew).mono ?_); rintro e w3 ⟨rfl, hc3⟩; have hC3 : Chg [] wr w3 := (((Chg.refl [] wr).alloc _).drew).nil_trans hc3; have hm3 : may w3 wr.heap.size 0 32 = true := may_chg hc3 (show may ((wr.alloc (.cells zeroHash 36)).drew) wr.heap.size 0 32 = true from may_alloc_at wr _ 32 zeroHash 36 rfl zeroHash_size) (by omega) (by simp)))
        all_goals
          go_wp2
          go_meet
          first
            | exact ⟨rfl, _, rfl, hC3.alloc _, rng?_alloc_at _ _ _ _ _ rfl hH1⟩
            | exact ⟨rfl, _, rfl, hC3.setRng (.inr (Nat.le_refl _)) _ _, rng?_setRng_same _ _ _ _ _ hm3 hH1⟩
      case rest =>
      obtain ⟨rfl, g8, rfl, hC8, hr8⟩ := hcut
      have hl8 := World.block_lt_of_cell? _ _ ((rng?_cell hr8).2 0 (by omega))
      clear hget
      by_cases hE0 : E = 0
      · subst hE0
        obtain ⟨v2, w2, hrun, hO2, hc2, hob⟩ := HP.out _ hC8
        have hol := own_lt (HO.out.chg hC8 (by simp)).1
        have HW : Chg [] w0 w2 := (hC.nil_trans hC8).trans hc2 (fun k hk => .inr (hol k hk).1)
        have HO2 := Lib.hid hO2
        clear hO2 hc2 hob hol HF
        go_wp2_with (at_builtin; refine Lib.wpList_append_run _ rfl _ _ _ _ rfl _ _ rfl rfl _ _ hrun ?_)
        go_roundg (ps.length - (i + 1))
        case measure => rw [HG.out]; omega
        case rel => exact ⟨i + 1, by omega, rfl, by go_num, by rw [HM.out]; exact HO2.out, HE2.out (by first | rfl | trivial), HW⟩
      · have hne : (E != 0) = true := by rw [bne_iff_ne]; exact hE0
        have hf := HF.out hE0
        clear HF HP HE2 hE0
        have HF := Lib.hid hf
        clear hf
        go_wp2
        go_ret2
        exact HF.out _ (hC.nil_trans hC8)
    · obtain rfl : i = ps.length := by omega
      rw [List.take_length] at hO hE
      rw [← atL_all (gH := dH r.d) hE] at hO
      obtain ⟨a, cap, rfl⟩ := hO.shp
      have hfin : AtG (dE r.d) (dH r.d) ps w0 (.returned (.tuple #[.slice a (atL (dE r.d) (dH r.d) ps).length cap, .int .i64 0])) wr := ⟨a, cap, by rw [atE_all hE], hO, hC⟩
      have HF := Lib.hid hfin
      clear hg hpc hfin hO hE
      generalize (atL (dE r.d) (dH r.d) ps).length = m at *
      go_wp2
      go_ret2
      exact HF.out
end Go.Proofs.YtpklkefnmoaaaaaGreatDoor

/- Texts put into one by pack.py: MpR. -/
import Derived.Test.YtpklkefnmoaaaaaGreatDoorMpQp
import Derived.Test.YtpklkefnmoaaaaaGreatDoorLwAwp
/- MmrPlays: its walk. -/
namespace Go.Proofs.YtpklkefnmoaaaaaGreatDoor
open Go.RowKit
set_option linter.unusedVariables false
set_option linter.unusedSimpArgs false
@[go_sem ↓] theorem hold_ld_ActM (x : Value) : Instr.loadAt 41 x = ldX 41 x := rfl
theorem u_ActMM : Tryz.prog.underlying 41 = some (.struct (Tryz.prog.fieldsOf 41)) := by kernel_rfl
@[go_sem] theorem ld_ActM (b o : Nat) (w : World) : (ldX 41 (.pointer (some ⟨b, o, none⟩))).run Tryz.prog w = ldR Tryz.prog 41 b o w (rng? w b o 36) := run_ldR _ _ 36 u_ActMM rfl (by kernel_rfl) b o w
set_option maxRecDepth 100000 in
set_option maxHeartbeats 4000000 in
theorem playsM_main (w : World) (wd : Int) (hwd : -9223372036854775808 ≤ wd ∧ wd < 9223372036854775808) (log : Nat) (v : Value) (l : List AM) (hl : log ≤ 16) (hwt : wtM l ≤ 200) (ha : ActsM w v l) (hk : HIs w) :
    Calls Tryz.prog 3 #[.int .i64 wd, .int .i64 log, v] w (Res w [] (.bool true)) := by
  have hweight := weightM_calls v l w ha
  obtain ⟨hok, hlen, a, cap, rfl, hr⟩ := ha
  have hlw := wtM_len l
  have hwle := fun k => wtM_le l k
  have hwst := fun k (hk : k < l.length) => wtM_take hk
  have hwmem := fun k (hk : k < l.length) => wtM_mem (List.getElem_mem hk)
  have HWL := Lib.hid hwle
  have HWS := Lib.hid hwst
  have HWM := Lib.hid hwmem
  have HOK := Lib.hid hok
  have HK := Lib.hid hk
  have HR := Lib.hid hr
  clear hwle hwst hwmem hok hk hr
  go_enter Tryz.func3, Tryz.ntmps3
  go_wp2_with fail
  go_at_call 12
  refine hweight.mono ?_
  rintro e w1 ⟨n, rfl, hn, hnb, hc1⟩
  have dn : decide ((200 : Int) < (n : Int)) = false := by simp; omega
  clear hweight
  go_wp2_with fail
  go_at_call 13
  refine (tnew_ok w1 wd hwd log hl (HK.out.chg0 hc1)).mono ?_
  rintro e w2 ⟨b, t, rfl, h1, h2, h3, h4, h5, h6, h7, h8, h9⟩
  go_wp2_with fail
  go_at_call 14
  refine (r6new_ok w2 wd log hl hwd).mono ?_
  rintro e w3 ⟨rb, r, rfl, g1, g2, g3, g4, g5, g6⟩
  obtain ⟨hT0, hRel0⟩ := Two.new h1 h2 h3 h4 h5 h6 h7 h8 g1 g2 g3 g4 g5 g6
  clear h1 h2 h3 h4 h5 h6 h7 h8 h9 g1 g2 g3 g4 g5 g6 dn
  have qS := tstore_calls w3 b t hT0.tr
  have HT0 := Lib.hid hT0
  have HRel0 := Lib.hid hRel0
  clear hT0 hRel0
  go_wp2_with (go_at_call 16; refine qS.mono ?_; rintro e w4 ⟨rfl, hc4⟩)
  have hT4 := HT0.out.chg0 hc4
  go_loopg [11] l.length (fun m i wr => ∃ k t r, k ≤ l.length ∧ m = l.length - k ∧ i = .int .i64 (k : Nat) ∧ Two [] w1 wr b rb t r ∧ Rel t r (wtM (l.take k)))
  case atStart => exact ⟨0, t, r, Nat.zero_le _, by omega, rfl, hT4, HRel0.out⟩
  case round =>
    clear hT4 qS HT0 HRel0
    obtain ⟨k, t', r', hk, hgk, rfl, hT, hRel⟩ := hrel
    have HG := Lib.hid hgk
    clear hgk
    have hle := HWL.out k
    have hch := hT.chg
    by_cases hlt : k < l.length
    · rcases HR.out with hr0 | ⟨ab, ao, rfl, hab, hr⟩
      · rw [hr0] at hlt; simp at hlt
      obtain ⟨hx, _⟩ := HOK.out l[k] (List.getElem_mem hlt)
      have hst := HWS.out k hlt
      have hme := HWM.out k hlt
      have hxr : l[k].ok wr := hx.chg0 (hc1.nil_trans hch)
      have hrk := rng?_chg (hc1.nil_trans hch) (hr k hlt) (by omega) (by simp)
      have hab2 : ab < wr.heap.size := Nat.lt_of_lt_of_le hab (hc1.nil_trans hch).size
      have hcs := hx.size
      have hco := hx.one
      have hact := actM_calls hT hRel (by omega) (HK.out.chg0 (hc1.nil_trans hch)) hxr (hx.chg0 hc1) (by omega)
      rw [← hst] at hact
      have HA := Lib.hid hact
      clear hr hx hxr hT hRel hst hme hact
      generalize l[k] = x at *
      go_wp2_with (go_at_call 17; refine HA.out.mono ?_; rintro e w5 ⟨rfl, t2, r2, hT5, hRel5⟩)
      go_roundg (l.length - (k + 1))
      case measure => rw [HG.out]; omega
      case rel => exact ⟨k + 1, t2, r2, by omega, rfl, by go_num, hT5, hRel5⟩
    · obtain rfl : k = l.length := by omega
      have hTk : Two [] w1 wr b rb t' r' := hT
      have hwh := wholeM_calls (show Two [] w1 wr b rb t' r' from hT) hRel (by omega) (HK.out.chg0 (hc1.nil_trans hch))
      have haw := fun (W : World) (hc : Chg [] wr W) => awake_calls W ((HK.out.chg0 (hc1.nil_trans hch)).chg0 hc)
      have HAW := Lib.hid haw
      clear hT hTk hRel haw HR HOK
      go_wp2_with (first
        | (go_at_call 18; refine hwh.mono ?_; rintro e w5 ⟨rfl, hc5⟩)
        | (go_at_call 15; refine (HAW.out _ hc5).mono ?_; rintro e w6 ⟨rfl, hc6⟩))
      go_ret
      exact ⟨rfl, (hc1.nil_trans hch).nil_trans (hc5.nil_trans hc6)⟩
set_option maxRecDepth 100000 in
theorem playsM_row (w : World) (wd : Int) (hwd : -9223372036854775808 ≤ wd ∧ wd < 9223372036854775808) (log : Int) (hb : -9223372036854775808 ≤ log ∧ log < 9223372036854775808) (v : Value) (l : List AM) (ha : ActsM w v l) (hk : HIs w) :
    Calls Tryz.prog 3 #[.int .i64 wd, .int .i64 log, v] w (Res w [] (.bool true)) := by
  by_cases hwt : 200 < wtM l
  · have hweight := weightM_calls v l w ha
    go_enter Tryz.func3, Tryz.ntmps3
    go_wp2_with (go_at_call 12; refine hweight.mono ?_; rintro e w1 ⟨n, rfl, hn, hnb, hc1⟩; have dn : decide ((200 : Int) < (n : Int)) = true := (by simp; omega); have dn2 : decide (200 < n) = true := (by simp; omega))
    go_ret
    exact ⟨rfl, hc1⟩
  · by_cases hg : 0 ≤ log ∧ log ≤ 16
    · obtain ⟨h1, h2⟩ := hg
      obtain ⟨log, rfl⟩ := Int.eq_ofNat_of_zero_le h1
      exact playsM_main w wd hwd log v l (by omega) (by omega) ha hk
    · have hbad : log < 0 ∨ 16 < log := by omega
      have hweight := weightM_calls v l w ha
      have haw := fun (W : World) (hc : Chg [] w W) => awake_calls W (hk.chg0 hc)
      have HAW := Lib.hid haw
      clear haw ha hk
      go_enter Tryz.func3, Tryz.ntmps3
      go_wp2_with (first
        | (go_at_call 12; refine hweight.mono ?_; rintro e w1 ⟨n, rfl, hn, hnb, hc1⟩; have dn : decide ((200 : Int) < (n : Int)) = false := (by simp; omega); have dn2 : decide (200 < n) = false := (by simp; omega))
        | (go_at_call 13; refine (tnew_bad _ wd log hbad).mono ?_; rintro e w2 ⟨rfl, hc2⟩)
        | (go_at_call 14; refine (r6new_bad _ wd log hbad).mono ?_; rintro e w3 ⟨rfl, hc3⟩)
        | (go_at_call 15; refine (HAW.out _ (hc1.nil_trans (hc2.nil_trans hc3))).mono ?_; rintro e w6 ⟨rfl, hc6⟩))
      go_ret
      exact ⟨rfl, (hc1.nil_trans (hc2.nil_trans hc3)).nil_trans hc6⟩
end Go.Proofs.YtpklkefnmoaaaaaGreatDoor

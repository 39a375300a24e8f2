/- Texts put into one by pack.py: PvH. -/
import Derived.Test.YtpklkefnmoaaaaaGreatDoorPvFp
/- FindProves: every input. -/
namespace Go.Proofs.YtpklkefnmoaaaaaGreatDoor
open Go.RowKit
set_option linter.unusedVariables false
set_option linter.unusedSimpArgs false
set_option maxRecDepth 100000 in
theorem proves_row (w : World) (wd : Int) (hwd : -9223372036854775808 ≤ wd ∧ wd < 9223372036854775808) (lv : Value) (hs : List (Array Value)) (hv : HsIs w lv hs) (dv : Value) (ds : List Int) (hd : NsIs .u64 w dv ds) (x : Array Value) (hx : IsHash x) (hk : HIs w) :
    Calls Tryz.prog 4 #[.int .i64 wd, lv, dv, .agg x] w (Res w [] (.bool true)) := by
  by_cases hbig : hs.length ≤ 100 ∧ ds.length ≤ 200
  · obtain ⟨L, hL⟩ : ∃ L : List HK, L.map (·.1) = hs := lift_list (p := IsHash) hs hv.1
    have hlen : L.length = hs.length := by rw [← hL, List.length_map]
    rw [← hL] at hv
    exact proves_main w wd hwd lv L hv (by omega) dv ds hd hbig.2 ⟨x, hx⟩ hk
  · obtain ⟨hI, la, lcap, rfl, hlr⟩ := hv
    obtain ⟨hN, da, dcap, rfl, hdr⟩ := hd
    have hx1 := hx.1
    have hx2 := hx.one
    clear hlr hdr hI hN hk hx
    by_cases h1 : 100 < hs.length
    · have hg1 : decide ((100 : Int) < (hs.length : Int)) = true := decide_eq_true (by omega)
      have hg2 : decide (100 < hs.length) = true := decide_eq_true h1
      generalize hs.length = n1 at *
      generalize ds.length = n2 at *
      go_enter Tryz.func4, Tryz.ntmps4
      go_wp2
      go_ret
      exact ⟨rfl, (Chg.refl _ _).alloc _⟩
    · have hg1 : decide ((100 : Int) < (hs.length : Int)) = false := decide_eq_false (by omega)
      have hg2 : decide (100 < hs.length) = false := decide_eq_false h1
      have hg3 : decide ((200 : Int) < (ds.length : Int)) = true := decide_eq_true (by omega)
      have hg4 : decide (200 < ds.length) = true := decide_eq_true (by omega)
      generalize hs.length = n1 at *
      generalize ds.length = n2 at *
      go_enter Tryz.func4, Tryz.ntmps4
      go_wp2
      go_ret
      exact ⟨rfl, (Chg.refl _ _).alloc _⟩
end Go.Proofs.YtpklkefnmoaaaaaGreatDoor

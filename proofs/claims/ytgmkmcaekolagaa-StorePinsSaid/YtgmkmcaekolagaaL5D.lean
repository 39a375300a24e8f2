/- StorePins: whatever comes in. -/
import Derived.Test.YtgmkmcaekolagaaL5C
namespace Go.Proofs.Ytgmkmcaekolagaa
open Go.RowKit

set_option maxRecDepth 100000 in
theorem pins_walk (log p pins : Int) (v : Value) (hs : List (Array Value)) (w : World) (hv : HsIs w v hs) (hp0 : 0 ≤ p) (hp : p < 18446744073709551616) :
    Calls Try.prog 4 #[.int .i64 log, v, .int .u64 p, .int .i64 pins] w (Res w [] (.bool true)) := by
  by_cases hg : 0 ≤ log ∧ log ≤ 16 ∧ hs.length ≤ 200 ∧ 0 ≤ pins ∧ pins ≤ 300
  · obtain ⟨h1, h2, h3, h4, h5⟩ := hg
    obtain ⟨log, rfl⟩ := Int.eq_ofNat_of_zero_le h1
    obtain ⟨p, rfl⟩ := Int.eq_ofNat_of_zero_le hp0
    obtain ⟨pins, rfl⟩ := Int.eq_ofNat_of_zero_le h4
    by_cases hn : p < hs.length
    · exact pins_near log p pins v hs w (by omega) h3 hv (by omega) hn
    · exact pins_far log p pins v hs w (by omega) h3 hv (by omega) (by omega) (by omega)
  · obtain ⟨_, a, cap, rfl, _⟩ := hv
    by_cases h1 : log < 0
    · go_enter Try.func4, Try.ntmps4
      go_wp2
      go_ret
      exact ⟨rfl, Chg.refl _ _⟩
    · by_cases h2 : 16 < log
      · go_enter Try.func4, Try.ntmps4
        go_wp2
        go_ret
        exact ⟨rfl, Chg.refl _ _⟩
      · by_cases h3 : 200 < hs.length
        · go_enter Try.func4, Try.ntmps4
          go_wp2
          go_ret
          exact ⟨rfl, Chg.refl _ _⟩
        · by_cases h4 : pins < 0
          · go_enter Try.func4, Try.ntmps4
            go_wp2
            go_ret
            exact ⟨rfl, Chg.refl _ _⟩
          · have h5 : 300 < pins := by omega
            go_enter Try.func4, Try.ntmps4
            go_wp2
            go_ret
            exact ⟨rfl, Chg.refl _ _⟩
end Go.Proofs.Ytgmkmcaekolagaa

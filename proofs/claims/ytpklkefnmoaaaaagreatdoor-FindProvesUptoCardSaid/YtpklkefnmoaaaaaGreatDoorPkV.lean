/- Texts put into one by pack.py: R3D PlA PlB PlC PlD PlE PlF. -/
import Derived.Lib.BitFns
import Derived.Lib.ItoaNum
import Derived.RegionTactic
import Derived.BigRegion
import Derived.Lib.SliceRun
import Derived.Test.YtpklkefnmoaaaaaGreatDoorPkK
import Derived.Test.YtpklkefnmoaaaaaGreatDoorPkF
import Derived.Test.YtpklkefnmoaaaaaGreatDoorLylen64
/- The document's Peaks walked. -/
namespace Go.Proofs.YtpklkefnmoaaaaaGreatDoor
open Go.RowKit
set_option linter.unusedVariables false
set_option linter.unusedSimpArgs false
theorem spC_cons (x : Nat × Nat) (l : List (Nat × Nat)) : spC (x :: l) = .int .u8 (x.1 : Int) :: .int .u64 (x.2 : Int) :: spC l := rfl
theorem spC_at : ∀ (l : List (Nat × Nat)) (i : Nat) (hi : i < l.length), (spC l)[i * 2]? = some (.int .u8 (l[i].1 : Int)) ∧ (spC l)[i * 2 + 1]? = some (.int .u64 (l[i].2 : Int))
  | [], i, h => by simp at h
  | x :: l, 0, h => by rw [spC_cons]; exact ⟨rfl, rfl⟩
  | x :: l, i + 1, h => by
    have := spC_at l i (by simpa using h)
    rw [spC_cons, show (i + 1) * 2 = i * 2 + 2 from by omega]
    simpa using this
theorem SpOwn.cells {w : World} {B : Nat} {v : Value} {l : List (Nat × Nat)} (h : SpOwn w B v l) : ∃ a cap, v = .slice a l.length cap ∧ (l = [] ∨ ∃ b, a = some ⟨b, 0, none⟩ ∧ b < w.heap.size ∧ ∀ i (hi : i < l.length), w.cell? ⟨b, i * 2, none⟩ = some (.int .u8 (l[i].1 : Int)) ∧ w.cell? ⟨b, i * 2 + 1, none⟩ = some (.int .u64 (l[i].2 : Int))) := by
  rcases h.2 with ⟨rfl, h0⟩ | ⟨g, cap, cur, rfl, hb, hh, hnc, hm, hcs, ht⟩
  · have : l = [] := List.eq_nil_of_length_eq_zero h0
    subst this
    exact ⟨none, 0, rfl, .inl rfl⟩
  · refine ⟨_, cap, rfl, .inr ⟨g, rfl, blk_lt hh, fun i hi => ?_⟩⟩
    obtain ⟨e1, e2⟩ := spC_at l i hi
    rw [← ht, List.getElem?_take_of_lt (by omega)] at e1 e2
    exact ⟨blk_cell hh _ (by simpa using e1), blk_cell hh _ (by simpa using e2)⟩
theorem peaks_tops (n : Nat) : peaksN n = (topsN n).map fun x => pk n x.1 := by
  unfold peaksN topsN pkL toL
  rw [List.map_map]
  rfl
theorem tops_mem {n : Nat} {x : Nat × Nat} (h : x ∈ topsN n) : x.1 ≤ 62 ∧ n / 2 ^ x.1 % 2 = 1 ∧ x.2 = n / 2 ^ x.1 - 1 := by
  unfold topsN toL at h
  obtain ⟨h', h1, rfl⟩ := List.mem_map.1 h
  obtain ⟨h2, h3⟩ := List.mem_filter.1 h1
  obtain ⟨j, _, rfl⟩ := List.mem_map.1 h2
  exact ⟨by simp only; omega, by simpa using h3, rfl⟩
set_option maxRecDepth 100000 in
set_option maxHeartbeats 4000000 in
theorem r3peaks_calls (n : Nat) (hn : n ≤ 4611686018427387904) (w : World) : Calls Tryz.prog 111 #[.int .u64 n] w (PeaksP w (peaksN n)) := by
  have htop := fun W => r3tops_calls n hn W
  have hlen : (topsN n).length ≤ 63 := toL_le n 63
  have hpt := peaks_tops n
  have hpl : ∀ x ∈ topsN n, ∀ W, Calls Tryz.prog 133 #[.agg #[.int .u8 (x.1 : Int), .int .u64 (x.2 : Int)]] W (Res W [] (.tuple #[.int .u64 (pk n x.1 : Nat), .bool true])) := by
    intro x hx W
    obtain ⟨h1, h2, h3⟩ := tops_mem hx
    have hq1 : 1 ≤ n / 2 ^ x.1 := Nat.pos_of_ne_zero (by intro e; rw [e] at h2; simp at h2)
    have hpw : 2 ^ (62 - x.1) * 2 ^ x.1 = 4611686018427387904 := by rw [← Nat.pow_add, Nat.sub_add_cancel h1]
    have hle := Nat.div_mul_le_self n (2 ^ x.1)
    have hk : n / 2 ^ x.1 ≤ 2 ^ (62 - x.1) := by
      have : n / 2 ^ x.1 * 2 ^ x.1 ≤ 2 ^ (62 - x.1) * 2 ^ x.1 := by rw [hpw]; omega
      exact Nat.le_of_mul_le_mul_right this (Nat.two_pow_pos _)
    have := r3place_calls x.1 x.2 h1 (by omega) W
    rw [h3, show n / 2 ^ x.1 - 1 + 1 = n / 2 ^ x.1 from by omega] at this
    rw [h3]
    exact this
  go_enter Tryz.func111, Tryz.ntmps111
  go_wp2_with (go_at_call 131; refine (htop _).mono ?_; rintro e w1 ⟨tv, rfl, hT, hc1⟩; obtain ⟨ta, tcap, rfl, htc⟩ := hT.cells)
  clear htop hT
  obtain ⟨w0, rfl⟩ : ∃ w0 : World, w0 = w := ⟨_, rfl⟩
  have hplen : (peaksN n).length = (topsN n).length := by rw [hpt, List.length_map]
  go_loopg [3, 5] (topsN n).length (fun g vv ii wx => ∃ i : Nat, i ≤ (topsN n).length ∧ g = (topsN n).length - i ∧ ii = .int .i64 i ∧ UOwn wx w1.heap.size vv ((peaksN n).take i) ∧ Chg [] w1 wx)
  case atStart => exact ⟨0, by omega, by omega, rfl, UOwn.nil _ _, Chg.refl _ _⟩
  case round =>
    obtain ⟨i, hi, hg, rfl, hO, hC⟩ := hrel
    by_cases hlt : i < (topsN n).length
    · have hlt' : i < (topsN n).length := hlt
      rcases htc with htc | ⟨pb, rfl, hpb, htc⟩
      · rw [htc] at hlt'; simp at hlt'
      obtain ⟨q1, q2⟩ := htc i hlt'
      have c1 := (hC.cell (p := ⟨pb, i * 2, none⟩) hpb (by simp)).trans q1
      have c2 := (hC.cell (p := ⟨pb, i * 2 + 1, none⟩) hpb (by simp)).trans q2
      have hbl : pb < wr.heap.size := Nat.lt_of_lt_of_le hpb hC.size
      have hp := hpl _ (List.getElem_mem hlt')
      have htk : (peaksN n).take (i + 1) = (peaksN n).take i ++ [pk n (topsN n)[i].1] := by
        rw [List.take_succ_eq_append_getElem (by rw [hplen]; exact hlt')]
        congr 2
        have : (peaksN n)[i]? = ((topsN n).map fun x => pk n x.1)[i]? := by rw [hpt]
        rw [List.getElem?_eq_getElem (by rw [hplen]; exact hlt'), List.getElem?_map, List.getElem?_eq_getElem hlt'] at this
        exact Option.some.inj this
      have HTK := Lib.hid htk
      have HG := Lib.hid hg
      have htl : ((peaksN n).take i).length ≤ 63 := by rw [List.length_take]; omega
      clear htk hpl htc q1 q2 hpt hplen hg
      generalize pk n (topsN n)[i].1 = pp at *
      generalize (topsN n)[i] = x at *
      go_upto_region 7 with (go_at_call 133; refine (hp _).mono ?_; rintro e w3 ⟨rfl, hc3⟩)
      have hO1 : UOwn w3 w1.heap.size _ _ := own_chg hO hc3 (by simp)
      obtain ⟨v2, w2, hrun, hO2, hc2, hob⟩ := hO1.push pp (by omega) (by have := hC.size; have := hc3.size; omega) 44
      have hol := own_lt hO1
      have HW : Chg [] w1 w2 := (hC.nil_trans hc3).trans hc2 (fun k hk => .inr (hol k hk).1)
      have HO2 := Lib.hid hO2
      clear hO hO1 hol hob hc2 hc3 hp hO2
      go_wp2_with (at_builtin; refine Lib.wpList_append_run _ rfl _ _ _ _ rfl _ _ rfl rfl _ _ hrun ?_)
      go_roundg ((topsN n).length - (i + 1))
      case measure => rw [HG.out]; omega
      case rel => exact ⟨i + 1, by omega, rfl, by go_num, by rw [HTK.out]; exact HO2.out, HW⟩
    · obtain rfl : i = (topsN n).length := by omega
      have hO2 := hO
      rw [← hplen, List.take_length] at hO2
      clear hg hpl htc hpt hplen
      go_wp2
      go_ret
      exact ⟨_, rfl, own_mono hO2 hc1.size, hc1.nil_trans hC⟩
end Go.Proofs.YtpklkefnmoaaaaaGreatDoor

/- The places of a leaf's proof (plain). -/
namespace Go.Proofs.YtpklkefnmoaaaaaGreatDoor
open Go.RowKit
set_option linter.unusedVariables false
set_option linter.unusedSimpArgs false
theorem xor_one (a : Nat) : a ^^^ 1 = if a % 2 = 0 then a + 1 else a - 1 := by
  have h1 : (a ^^^ 1) / 2 = a / 2 := by
    have := Nat.xor_div_two (a := a) (b := 1)
    simpa using this
  have h2 : (a ^^^ 1) % 2 = (a + 1) % 2 := by
    have := Nat.xor_mod_two_pow (a := a) (b := 1) (n := 1)
    rw [Nat.pow_one] at this
    rw [this]
    rcases Nat.mod_two_eq_zero_or_one a with h | h
    · rw [h, show (a + 1) % 2 = 1 from by omega]; rfl
    · rw [h, show (a + 1) % 2 = 0 from by omega]; rfl
  split <;> omega
/-- The height of the peak over a leaf. -/
def hgt (i n : Nat) : Nat := Lib.bitLen (i ^^^ n) - 1
theorem hgt_spec {i n : Nat} (hi : i < n) (hn : n ≤ 4611686018427387904) : i / 2 ^ hgt i n + 1 = n / 2 ^ hgt i n ∧ n / 2 ^ hgt i n % 2 = 1 ∧ hgt i n ≤ 62 ∧ 1 ≤ Lib.bitLen (i ^^^ n) := by
  have hx0 : i ^^^ n ≠ 0 := fun h => by
    have : i = n := by
      have h2 := congrArg (· ^^^ n) h
      simpa [Nat.xor_assoc] using h2
    omega
  have hx64 : i ^^^ n < 2 ^ 64 := Nat.xor_lt_two_pow (by have : (4611686018427387904 : Nat) < 2 ^ 64 := by decide
                                                         omega) (by have : (4611686018427387904 : Nat) < 2 ^ 64 := by decide
                                                                    omega)
  obtain ⟨b1, b2, b3⟩ := Lib.bitLenAux_bounds 64 _ hx64 hx0
  have e : Lib.bitLenAux 64 (i ^^^ n) = Lib.bitLen (i ^^^ n) := rfl
  rw [e] at b1 b2 b3
  have hH : 2 ^ (hgt i n + 1) = 2 ^ Lib.bitLen (i ^^^ n) := by unfold hgt; rw [Nat.sub_add_cancel b1]
  have hp := Nat.two_pow_pos (hgt i n)
  have hd : (i ^^^ n) / 2 ^ hgt i n = 1 := by
    have h1 : 1 ≤ (i ^^^ n) / 2 ^ hgt i n := (Nat.one_le_div_iff hp).2 b2
    have h2 : (i ^^^ n) / 2 ^ hgt i n < 2 := by
      rw [Nat.div_lt_iff_lt_mul hp, ← Nat.pow_succ', hH]
      exact b3
    omega
  have hx : i / 2 ^ hgt i n ^^^ n / 2 ^ hgt i n = 1 := by
    rw [← Nat.shiftRight_eq_div_pow, ← Nat.shiftRight_eq_div_pow, ← Nat.shiftRight_xor_distrib, Nat.shiftRight_eq_div_pow]
    exact hd
  have hc : n / 2 ^ hgt i n = i / 2 ^ hgt i n ^^^ 1 := by
    have h2 := congrArg (i / 2 ^ hgt i n ^^^ ·) hx
    rw [← Nat.xor_assoc, Nat.xor_self, Nat.zero_xor] at h2
    exact h2
  have hle : i / 2 ^ hgt i n ≤ n / 2 ^ hgt i n := Nat.div_le_div_right (by omega)
  rw [xor_one] at hc
  have key : ∀ a c : Nat, a ≤ c → c = (if a % 2 = 0 then a + 1 else a - 1) → a + 1 = c ∧ c % 2 = 1 := by
    intro a c h1 h2
    split at h2 <;> omega
  obtain ⟨k1, k2⟩ := key _ _ hle hc
  have hnz : 1 ≤ n / 2 ^ hgt i n := by rw [← k1]; exact Nat.le_add_left _ _
  refine ⟨k1, k2, ?_, b1⟩
  rw [Nat.one_le_div_iff hp] at hnz
  rcases Nat.lt_or_ge 62 (hgt i n) with q | q
  · have h3 := Nat.pow_le_pow_right (show 0 < 2 from by omega) q
    have : (2 : Nat) ^ (62 + 1) = 9223372036854775808 := by decide
    omega
  · exact q
/-- It is the only one. -/
theorem hgt_uniq {i n h : Nat} (hi : i < n) (hn : n ≤ 4611686018427387904) (hb : n / 2 ^ h % 2 = 1) : i / 2 ^ h = n / 2 ^ h - 1 ↔ h = hgt i n := by
  obtain ⟨h1, h2, h3, _⟩ := hgt_spec hi hn
  constructor
  · intro e
    have hlow : ∀ a b, a < b → i / 2 ^ a = n / 2 ^ a - 1 → n / 2 ^ a % 2 = 1 → i / 2 ^ b = n / 2 ^ b := fun a b hab e1 e2 => by
      obtain ⟨k, rfl⟩ : ∃ k, b = a + 1 + k := ⟨b - (a + 1), by omega⟩
      rw [Nat.pow_add, Nat.pow_succ, ← Nat.div_div_eq_div_mul, ← Nat.div_div_eq_div_mul, ← Nat.div_div_eq_div_mul, ← Nat.div_div_eq_div_mul, e1]
      congr 1
      generalize n / 2 ^ a = z at *
      clear h1 h2 h3 e hb hi hn e1
      omega
    have hsub : i / 2 ^ hgt i n = n / 2 ^ hgt i n - 1 := by rw [← h1, Nat.add_sub_cancel]
    rcases Nat.lt_trichotomy h (hgt i n) with q | q | q
    · have := hlow _ _ q e hb
      rw [this] at h1
      exact absurd h1 (Nat.succ_ne_self _)
    · exact q
    · have := hlow _ _ q hsub h2
      rw [this] at e
      generalize n / 2 ^ h = z at *
      clear h1 h2 h3 hlow hsub hi hn this
      omega
  · rintro rfl
    rw [← h1, Nat.add_sub_cancel]
def pl (h k : Nat) : Nat := nodesN ((k + 1) * 2 ^ h - 1) + h
theorem sib_fit {i n h : Nat} (hi : i < n) (hn : n ≤ 4611686018427387904) (hh : h < hgt i n) : ((i / 2 ^ h ^^^ 1) + 1) * 2 ^ h ≤ n ∧ h ≤ 62 := by
  obtain ⟨h1, h2, h3, _⟩ := hgt_spec hi hn
  refine ⟨?_, by omega⟩
  obtain ⟨k, hk⟩ : ∃ k, hgt i n = h + 1 + k := ⟨hgt i n - (h + 1), by omega⟩
  have hp := Nat.two_pow_pos h
  have e1 : (i / 2 ^ h ^^^ 1) + 1 ≤ 2 * (i / 2 ^ (h + 1) + 1) := by
    rw [xor_one, Nat.pow_succ, ← Nat.div_div_eq_div_mul]
    generalize i / 2 ^ h = z at *
    clear h1 h2 h3 hi hn hh hk hp
    split <;> omega
  have e2 : i / 2 ^ (h + 1) + 1 ≤ n / 2 ^ (h + 1 + k) * 2 ^ k := by
    rw [hk] at h1
    have := Nat.lt_div_mul_add (a := i / 2 ^ (h + 1)) (Nat.two_pow_pos k)
    rw [← h1, Nat.add_mul, Nat.one_mul, Nat.pow_add 2 (h + 1) k, ← Nat.div_div_eq_div_mul]
    exact this
  have e3 := Nat.div_mul_le_self n (2 ^ (h + 1 + k))
  have e4 : 2 ^ (h + 1 + k) = 2 ^ k * (2 * 2 ^ h) := by rw [Nat.pow_add, Nat.pow_succ, Nat.mul_comm (2 ^ h) 2, Nat.mul_comm]
  calc ((i / 2 ^ h ^^^ 1) + 1) * 2 ^ h ≤ 2 * (i / 2 ^ (h + 1) + 1) * 2 ^ h := Nat.mul_le_mul_right _ e1
    _ = (i / 2 ^ (h + 1) + 1) * (2 * 2 ^ h) := by rw [Nat.mul_comm 2, Nat.mul_assoc]
    _ ≤ n / 2 ^ (h + 1 + k) * 2 ^ k * (2 * 2 ^ h) := Nat.mul_le_mul_right _ e2
    _ = n / 2 ^ (h + 1 + k) * 2 ^ (h + 1 + k) := by rw [e4, Nat.mul_assoc]
    _ ≤ n := e3
def pathN (i n : Nat) : List Nat := (List.range (hgt i n)).map fun h => pl h (i / 2 ^ h ^^^ 1)
def ownN (i n : Nat) : Nat := popc (n / 2 ^ (hgt i n + 1))
def placesN (i n : Nat) : List Nat := pathN i n ++ (peaksN n).eraseIdx (ownN i n)
/-- Of the peaks' spots, the one over a leaf. -/
theorem tops_split {i n : Nat} (hi : i < n) (hn : n ≤ 4611686018427387904) : ∃ r, topsN n = toL n (62 - hgt i n) ++ (hgt i n, n / 2 ^ hgt i n - 1) :: r ∧ (toL n (62 - hgt i n)).length = ownN i n := by
  obtain ⟨h1, h2, h3, _⟩ := hgt_spec hi hn
  have hpre : ∀ c d, ∃ r, toL n (c + d) = toL n c ++ r := by
    intro c d
    induction d with
    | zero => exact ⟨[], by simp⟩
    | succ d ih =>
      obtain ⟨r, hr⟩ := ih
      rw [show c + (d + 1) = c + d + 1 from rfl, toL_succ]
      split
      · exact ⟨r ++ [(62 - (c + d), n / 2 ^ (62 - (c + d)) - 1)], by rw [hr, List.append_assoc]⟩
      · exact ⟨r, hr⟩
  have hs := toL_succ n (62 - hgt i n)
  rw [show 62 - (62 - hgt i n) = hgt i n from by omega, if_pos h2] at hs
  obtain ⟨r, hr⟩ := hpre (62 - hgt i n + 1) (hgt i n)
  refine ⟨r, ?_, ?_⟩
  · unfold topsN
    rw [show (63 : Nat) = 62 - hgt i n + 1 + hgt i n from by omega, hr, hs, List.append_assoc]
    rfl
  · rw [toL_len, pkL_length n (by have : (2 : Nat) ^ 63 = 9223372036854775808 := by decide
                                  omega) _ (by omega), show 63 - (62 - hgt i n) = hgt i n + 1 from by omega]
    rfl
theorem ownN_lt {i n : Nat} (hi : i < n) (hn : n ≤ 4611686018427387904) : ownN i n < (topsN n).length := by
  obtain ⟨r, h1, h2⟩ := tops_split hi hn
  rw [h1, List.length_append, h2]
  simp
theorem own_at {i n k : Nat} (hi : i < n) (hn : n ≤ 4611686018427387904) (hk : k < (topsN n).length) : i / 2 ^ (topsN n)[k].1 = (topsN n)[k].2 ↔ k = ownN i n := by
  have hm := tops_mem (List.getElem_mem hk)
  rw [hm.2.2, hgt_uniq hi hn hm.2.1]
  obtain ⟨r, h1, h2⟩ := tops_split hi hn
  have hnd : ((topsN n).map (·.1)).Nodup := by
    unfold topsN toL
    rw [List.map_map]
    have : ((fun x : Nat × Nat => x.1) ∘ fun h => (h, n / 2 ^ h - 1)) = id := rfl
    rw [this, List.map_id]
    refine List.Nodup.sublist List.filter_sublist ?_
    have hr : (List.range 63).Nodup := List.nodup_range
    exact (by decide : ((List.range 63).map (62 - ·)).Nodup)
  have hkm : k < ((topsN n).map (·.1)).length := by rw [List.length_map]; exact hk
  have hol : ownN i n < ((topsN n).map (·.1)).length := by rw [List.length_map]; exact ownN_lt hi hn
  have hoe : ((topsN n).map (·.1))[ownN i n] = hgt i n := by
    have e : (topsN n)[ownN i n]? = some (hgt i n, n / 2 ^ hgt i n - 1) := by
      rw [h1, List.getElem?_append_right (by omega), h2, Nat.sub_self]
      rfl
    rw [List.getElem_map]
    rw [List.getElem?_eq_getElem (ownN_lt hi hn)] at e
    rw [Option.some.inj e]
  constructor
  · intro e
    have e2 : ((topsN n).map (·.1))[k] = ((topsN n).map (·.1))[ownN i n] := by rw [hoe, List.getElem_map]; exact e
    exact (List.getElem_inj hnd).1 e2
  · intro e
    have e2 : ((topsN n).map (·.1))[k] = ((topsN n).map (·.1))[ownN i n] := by simp only [e]
    rw [hoe, List.getElem_map] at e2
    exact e2
theorem peaks_len (n : Nat) : (peaksN n).length = (topsN n).length := by rw [peaks_tops, List.length_map]
end Go.Proofs.YtpklkefnmoaaaaaGreatDoor

/- The places of a leaf's proof: Len64, High, height, Peak, Path walked. -/
namespace Go.Proofs.YtpklkefnmoaaaaaGreatDoor
open Go.RowKit
set_option linter.unusedVariables false
set_option linter.unusedSimpArgs false
theorem high_calls (x : Nat) (hx : x < 18446744073709551616) (w : World) : Calls Tryz.prog 188 #[.int .u64 x] w fun e w' => e = .returned (.int .i64 ((Lib.bitLen x : Nat) - 1 : Int)) ∧ w' = w := by
  have hl := fun W => Any.bits_Len64 Tryz.len64 (x : Int) W (by omega) (by omega)
  have e1 : (x : Int).toNat = x := by omega
  rw [e1] at hl
  have hb : Lib.bitLen x ≤ 64 := Lib.bitLen_le x 64 (by omega) (by have : (2 : Nat) ^ 64 = 18446744073709551616 := by decide
                                                                   omega)
  generalize Lib.bitLen x = L at *
  go_enter Tryz.func188, Tryz.ntmps188
  go_wp2_with (go_at_call 224; refine (hl _).mono ?_; rintro e w1 ⟨rfl, hw1⟩; subst hw1)
  go_ret
  exact ⟨rfl, rfl⟩
theorem height_calls (i n : Nat) (hi : i < n) (hn : n ≤ 4611686018427387904) (w : World) : Calls Tryz.prog 182 #[.int .u64 i, .int .u64 n] w fun e w' => e = .returned (.int .i64 (hgt i n : Nat)) ∧ w' = w := by
  obtain ⟨_, _, _, hb⟩ := hgt_spec hi hn
  have hx : bits BinOp.xor IntKind.u64 (i : Int) (n : Int) = ((i ^^^ n : Nat) : Int) := u64_xor_nat i n (by omega) (by omega)
  have p64 : (2 : Nat) ^ 64 = 18446744073709551616 := by decide
  have hlt : i ^^^ n < 2 ^ 64 := Nat.xor_lt_two_pow (by omega) (by omega)
  rw [p64] at hlt
  have hh := fun W => high_calls (i ^^^ n) hlt W
  have he : ((Lib.bitLen (i ^^^ n) : Nat) - 1 : Int) = (hgt i n : Nat) := by unfold hgt; omega
  rw [he] at hh
  clear he hlt hb p64
  generalize hgt i n = H at *
  generalize i ^^^ n = X at *
  go_enter Tryz.func182, Tryz.ntmps182
  go_wp2_with (go_at_call 188; refine (hh _).mono ?_; rintro e w1 ⟨rfl, hw1⟩; subst hw1)
  go_ret
  exact ⟨rfl, rfl⟩
theorem Peak_ok (i n : Nat) (hi : i < n) (hn : n ≤ 4611686018427387904) (w : World) : Calls Tryz.prog 124 #[.int .u64 i, .int .u64 n] w fun e w' => e = .returned (.tuple #[.int .i64 (ownN i n : Nat), .bool true]) ∧ w' = w := by
  obtain ⟨_, _, h62, _⟩ := hgt_spec hi hn
  have hh := fun W => height_calls i n hi hn W
  have ho := fun W => ones_calls (n / 2 ^ (hgt i n + 1)) (Nat.lt_of_le_of_lt (Nat.div_le_self _ _) (by omega)) W
  have hd1 : (n : Int) / 2 ^ hgt i n = ((n / 2 ^ hgt i n : Nat) : Int) := by rw [← pow_i]; simp
  have hd2 : ((n / 2 ^ hgt i n : Nat) : Int) / 2 = ((n / 2 ^ (hgt i n + 1) : Nat) : Int) := by rw [Nat.pow_succ, ← Nat.div_div_eq_div_mul]; omega
  have hq : n / 2 ^ hgt i n ≤ n := Nat.div_le_self _ _
  have e1 : decide ((4611686018427387904 : Int) < (n : Int)) = false := decide_eq_false (by omega)
  have e2 : decide (n ≤ i) = false := decide_eq_false (by omega)
  have hown : ownN i n = popc (n / 2 ^ (hgt i n + 1)) := rfl
  rw [← hown] at ho
  clear hown
  generalize ownN i n = O at *
  generalize n / 2 ^ (hgt i n + 1) = Q2 at *
  generalize n / 2 ^ hgt i n = Q1 at *
  generalize hgt i n = H at *
  go_enter Tryz.func124, Tryz.ntmps124
  go_wp2_with (first
    | (go_at_call 182; refine (hh _).mono ?_; rintro e w1 ⟨rfl, hw1⟩; subst hw1)
    | (go_at_call 181; refine (ho _).mono ?_; rintro e w1 ⟨rfl, hw1⟩; subst hw1))
  go_ret2
  exact ⟨rfl, rfl⟩
theorem Peak_bad (i n : Nat) (h : 4611686018427387904 < n ∨ n ≤ i) (h1 : i < 18446744073709551616) (h2 : n < 18446744073709551616) (w : World) : Calls Tryz.prog 124 #[.int .u64 i, .int .u64 n] w fun e w' => e = .returned (.tuple #[.int .i64 0, .bool false]) ∧ w' = w := by
  by_cases hn : 4611686018427387904 < n
  · have e1 : decide ((4611686018427387904 : Int) < (n : Int)) = true := decide_eq_true (by omega)
    go_enter Tryz.func124, Tryz.ntmps124
    go_wp2
    go_ret2
    exact ⟨rfl, rfl⟩
  · have e1 : decide ((4611686018427387904 : Int) < (n : Int)) = false := decide_eq_false (by omega)
    have e2 : decide (n ≤ i) = true := decide_eq_true (by omega)
    go_enter Tryz.func124, Tryz.ntmps124
    go_wp2
    go_ret2
    exact ⟨rfl, rfl⟩
/-- Path's answer. -/
def PathP (l : List Nat) (w : World) (e : Ending) (w' : World) : Prop := ∃ v, e = .returned (.tuple #[v, .bool true]) ∧ UOwn w' w.heap.size v l ∧ Chg [] w w'
theorem pathN_take (i n c : Nat) (hc : c < hgt i n) : (pathN i n).take (c + 1) = (pathN i n).take c ++ [pl c (i / 2 ^ c ^^^ 1)] := by
  have hl : (pathN i n).length = hgt i n := by simp [pathN]
  rw [List.take_succ_eq_append_getElem (by omega)]
  congr 2
  simp [pathN]
set_option maxRecDepth 100000 in
set_option maxHeartbeats 4000000 in
theorem Path_ok (i n : Nat) (hi : i < n) (hn : n ≤ 4611686018427387904) (w : World) : Calls Tryz.prog 123 #[.int .u64 i, .int .u64 n] w (PathP (pathN i n) w) := by
  obtain ⟨_, _, h62, _⟩ := hgt_spec hi hn
  have hpk := fun W => Peak_ok i n hi hn W
  have hh := fun W => height_calls i n hi hn W
  have hlen : (pathN i n).length = hgt i n := by simp [pathN]
  have hfit := fun h (hh : h < hgt i n) => sib_fit hi hn hh
  have htk := fun c (hc : c < hgt i n) => pathN_take i n c hc
  have HFIT := Lib.hid hfit
  have HTK := Lib.hid htk
  have HLEN := Lib.hid hlen
  clear hfit htk hlen
  generalize ownN i n = O at *
  generalize pathN i n = L at *
  generalize hgt i n = H at *
  go_enter Tryz.func123, Tryz.ntmps123
  go_wp2_with (first
    | (go_at_call 124; refine (hpk _).mono ?_; rintro e w1 ⟨rfl, hw1⟩; obtain rfl : w = w1 := hw1.symm)
    | (go_at_call 182; refine (hh _).mono ?_; rintro e w1 ⟨rfl, hw1⟩; obtain rfl : w = w1 := hw1.symm))
  clear hpk hh
  obtain ⟨w0, rfl⟩ : ∃ w0 : World, w0 = w := ⟨_, rfl⟩
  go_loopg [8, 23] H (fun g vv hh wx => ∃ c : Nat, c ≤ H ∧ g = H - c ∧ hh = .int .i64 c ∧ UOwn wx w0.heap.size vv (L.take c) ∧ Chg [] w0 wx)
  case atStart => exact ⟨0, by omega, by omega, rfl, UOwn.nil _ _, Chg.refl _ _⟩
  case round =>
    obtain ⟨c, hc, hg, rfl, hO, hC⟩ := hrel
    have HG := Lib.hid hg
    clear hg
    by_cases hlt : c < H
    · obtain ⟨hf1, hf2⟩ := HFIT.out c hlt
      have hpl := fun W => place_calls c (i / 2 ^ c ^^^ 1) hf2 (by omega) W
      have htk := HTK.out c hlt
      have hd : (i : Int) / 2 ^ c = ((i / 2 ^ c : Nat) : Int) := by rw [← pow_i]; simp
      have hq : i / 2 ^ c ≤ i := Nat.div_le_self _ _
      have hx : bits BinOp.xor IntKind.u64 ((i / 2 ^ c : Nat) : Int) 1 = ((i / 2 ^ c ^^^ 1 : Nat) : Int) := u64_xor_nat (i / 2 ^ c) 1 (by omega) (by omega)
      have hpe : nodesN (((i / 2 ^ c ^^^ 1) + 1) * 2 ^ c - 1) + c = pl c (i / 2 ^ c ^^^ 1) := rfl
      rw [hpe] at hpl
      have hlL : (L.take c).length ≤ 62 := by rw [List.length_take]; omega
      clear hpe hf1
      have HT := Lib.hid htk
      clear htk
      generalize pl c (i / 2 ^ c ^^^ 1) = pp at *
      generalize i / 2 ^ c ^^^ 1 = X at *
      generalize i / 2 ^ c = Q at *
      go_upto_region 9 with (go_at_call 122; refine (hpl _).mono ?_; rintro e w3 ⟨rfl, hc3⟩)
      have hO1 : UOwn w3 w0.heap.size _ _ := own_chg hO hc3 (by simp)
      obtain ⟨v2, w2, hrun, hO2, hc2, hob⟩ := hO1.push pp (by omega) (by have := hC.size; have := hc3.size; omega) 44
      have hol := own_lt hO1
      have HW : Chg [] w0 w2 := (hC.nil_trans hc3).trans hc2 (fun k hk => .inr (hol k hk).1)
      have HO2 := Lib.hid hO2
      clear hO hO1 hol hob hc2 hc3 hpl hO2
      go_wp2_with (at_builtin; refine Lib.wpList_append_run _ rfl _ _ _ _ rfl _ _ rfl rfl _ _ hrun ?_)
      go_roundg (H - (c + 1))
      case measure => rw [HG.out]; omega
      case rel => exact ⟨c + 1, by omega, rfl, by go_num, by rw [HT.out]; exact HO2.out, HW⟩
    · obtain rfl : c = H := by omega
      rw [← HLEN.out, List.take_length] at hO
      have HO := Lib.hid hO
      clear hO
      go_wp2
      go_ret2
      exact ⟨_, rfl, HO.out, hC⟩
end Go.Proofs.YtpklkefnmoaaaaaGreatDoor

/- slices.Delete of one number; proof.Places walked. -/
namespace Go.Proofs.YtpklkefnmoaaaaaGreatDoor
open Go.RowKit
set_option linter.unusedVariables false
set_option linter.unusedSimpArgs false
def numV (n : Nat) : Value := .int .u64 (n : Int)
def apD (ts : Array TypeId) (ty : TypeId) (xs : Array Value) : Sem Value := Builtin.append_ ts ty xs
theorem hold_apD (ts : Array TypeId) (ty : TypeId) (xs : Array Value) : Builtin.append_ ts ty xs = apD ts ty xs := rfl
section
attribute [local go_sem ↓] hold_apD
/-- One number taken out of a row. -/
def DelP (v : Value) (B : Nat) (l : List Nat) (w : World) (e : Ending) (w' : World) : Prop := ∃ v', e = .returned v' ∧ UOwn w' B v' l ∧ Chg (ob v) w w' ∧ ob v' = ob v
theorem z_u64 (w : World) : (zeroValue 38).run Tryz.prog w = .ok (.int .u64 0) w := by kernel_rfl
set_option maxRecDepth 100000 in
set_option maxHeartbeats 4000000 in
theorem delete_calls (w : World) (B : Nat) (v : Value) (l : List Nat) (hU : UOwn w B v l) (k : Nat) (hk : k < l.length) (hl : l.length ≤ 1000) :
    Calls Tryz.prog 125 #[v, .int .i64 k, .int .i64 ((k + 1 : Nat) : Int)] w (DelP v B (l.eraseIdx k) w) := by
  obtain ⟨hlen, ⟨_, h0⟩ | ⟨g, cap, cur, rfl, hb, hh, hnc, hm, hcs, ht⟩⟩ := hU
  · omega
  obtain ⟨i, hi, hz, hsz, hby⟩ := infoOfU i_u64
  obtain ⟨n, hn⟩ : ∃ n, l.length = n := ⟨_, rfl⟩
  obtain ⟨news, hnews⟩ : ∃ news, news = (l.drop (k + 1)).map fun (n : Nat) => Value.int .u64 (n : Int) := ⟨_, rfl⟩
  have hnl : news.length = n - (k + 1) := by rw [hnews]; simp [hn]
  rw [Nat.mul_one] at hcs ht
  rw [hn] at ht hnc
  have hcl : cur.toList.length = cap := by rw [Array.length_toList]; exact hcs
  have hcell : ∀ j (hj : j < n), cur[j]? = some (.int .u64 (l[j]'(by omega) : Nat)) := fun j hj => by
    have e : (l.map fun (n : Nat) => Value.int .u64 (n : Int))[j]? = some (.int .u64 (l[j]'(by omega) : Nat)) := by simp [hn, hj]
    rw [← ht, List.getElem?_take_of_lt hj] at e
    simpa using e
  obtain ⟨A, hA, hsrc⟩ : ∃ A : Addr, (if cap = k + 1 then some (⟨g, 0, none⟩ : Addr) else some ⟨g, k + 1, none⟩) = some A ∧ (∀ j u, news[j]? = some u → w.drew.cell? (A.add j) = some u) := by
    by_cases h : cap = k + 1
    · refine ⟨⟨g, 0, none⟩, by simp [h], fun j u hu => ?_⟩
      have h0 : news.length = 0 := by rw [hnl]; omega
      rw [List.length_eq_zero_iff.1 h0] at hu
      simp at hu
    · refine ⟨⟨g, k + 1, none⟩, by simp [h], fun j u hu => ?_⟩
      have hj : j < n - (k + 1) := by rw [← hnl]; exact (List.getElem?_eq_some_iff.1 hu).1
      have hc := hcell (k + 1 + j) (by omega)
      rw [Addr.add_lit]
      rw [hnews, List.getElem?_map, List.getElem?_drop, List.getElem?_eq_getElem (by omega)] at hu
      rw [← Option.some.inj hu]
      exact blk_cell (blk_drew hh) _ hc
  have hdr : w.drew.heap[g]? = some (.cells cur 38 (0, 0)) := blk_drew hh
  have hap := run_append_room_cells (P := Tryz.prog) w.drew 44 44 38 i u_u64s hi g 0 k cap A (n - (k + 1)) (cap - (k + 1)) news (by rw [hsz, Nat.mul_one]; exact hnl) hsrc (by intro u hu; rw [hnews] at hu; obtain ⟨x, _, rfl⟩ := List.mem_map.1 hu; rfl) (by omega)
    (fun j hj => by rw [hsz, Nat.mul_one, Nat.zero_add, cell_of_row _ _ _ _ _ _ hdr]; simp; omega) (fun j hj => by rw [hsz, Nat.mul_one, Nat.zero_add]; exact blk_frozen hdr _)
  rw [hsz, Nat.mul_one, Nat.zero_add] at hap
  have hW1 := setCells_heap g 38 news k cur w.drew hdr (by rw [hnl]; omega)
  have hkn : k + (n - (k + 1)) = n - 1 := by omega
  have hcr := fun (ty : TypeId) => Lib.run_clear_slice (P := Tryz.prog) (w.drew.setCells g k news) 44 38 ty (.int .u64 0) u_u64s z_u64 rfl rfl g (n - 1) 1 (cap - (n - 1)) (by omega)
    (fun j hj => by rw [cell_of_row _ _ _ _ _ _ hW1]; simp [hnl]; omega) (fun j hj => blk_frozen hW1 _)
  obtain ⟨W1, hW1e⟩ : ∃ W1, W1 = w.drew.setCells g k news := ⟨_, rfl⟩
  obtain ⟨W2, hW2e⟩ : ∃ W2, W2 = W1.setCells g (n - 1) (List.replicate 1 (.int .u64 0)) := ⟨_, rfl⟩
  simp only [← hW1e] at hap hW1 hcr
  simp only [← hW2e] at hcr
  have hL1 : (cur.toList.take k ++ news ++ cur.toList.drop (k + news.length)).length = cap := by simp [hnl, hcl]; omega
  have hW2 := setCells_heap g 38 (List.replicate 1 (.int .u64 0)) (n - 1) _ W1 hW1 (by simp [hnl, hcl]; omega)
  rw [← hW2e] at hW2
  have hfin : DelP (.slice (some ⟨g, 0, none⟩) n cap) B (l.eraseIdx k) w (.returned (.slice (some ⟨g, 0, none⟩) (n - 1) cap)) W2 := by
    have hel : (l.eraseIdx k).length = n - 1 := by rw [List.length_eraseIdx, if_pos hk, hn]
    refine ⟨_, rfl, ⟨by simp, .inr ⟨g, cap, _, by rw [hel], hb, hW2, by rw [hel]; omega, hm, ?_, ?_⟩⟩, ?_, by rw [ob_some, ob_some]⟩
    · simp only [List.size_toArray, List.length_append, List.length_take, List.length_drop, hL1, List.length_replicate, Array.length_toList]
      omega
    · rw [hel, Nat.mul_one]
      have e1 : (cur.toList.take k ++ news).length = n - 1 := by simp [hnl, hcl]; omega
      have e2 : (cur.toList.take k ++ news ++ cur.toList.drop (k + news.length)).toArray.toList.take (n - 1) = cur.toList.take k ++ news := by
        show List.take (n - 1) (cur.toList.take k ++ news ++ cur.toList.drop (k + news.length)) = _
        rw [List.take_append_of_le_length (by omega), List.take_of_length_le (by omega)]
      show List.take (n - 1) (List.take (n - 1) _ ++ List.replicate 1 _ ++ _) = _
      rw [e2, List.append_assoc, List.take_append_of_le_length (by omega), List.take_of_length_le (by omega), List.eraseIdx_eq_take_drop_succ, List.map_append, ← hnews]
      congr 1
      have := congrArg (List.take k) ht
      rw [List.take_take, Nat.min_eq_left (by omega), ← List.map_take] at this
      exact this
    · rw [hW2e, hW1e, ob_some]
      obtain ⟨o1, o2, o3⟩ := setCells_os g news k w.drew
      have c1 : Chg [g] w (w.drew.setCells g k news) := ⟨o1, o2, o3, Nat.le_of_eq (setCells_size g _ _ w.drew).symm, fun j _ hj => setCells_other g _ _ _ _ (fun e => hj (by simp [e]))⟩
      obtain ⟨p1, p2, p3⟩ := setCells_os g (List.replicate 1 (.int .u64 0)) (n - 1) (w.drew.setCells g k news)
      exact c1.trans (G := [g]) ⟨p1, p2, p3, Nat.le_of_eq (setCells_size g _ _ _).symm, fun j _ hj => setCells_other g _ _ _ _ (fun e => hj (by simp [e]))⟩ (fun x hx => .inl hx)
  have HF := Lib.hid hfin
  rw [hn]
  have hkc : k + 1 ≤ cap := by omega
  have hkn1 : k + 1 ≤ n := by omega
  have hap2 : (apD #[44, 44] 44 #[.slice (some ⟨g, 0, none⟩) k cap, .slice (some A) (n - (k + 1)) (cap - (k + 1))]).run Tryz.prog w.drew = .ok (.slice (some ⟨g, 0, none⟩) (n - 1) cap) W1 := by rw [← hkn]; exact hap
  have hcr2 : ∀ ty, (clX #[44] ty #[.slice (some ⟨g, n - 1, none⟩) (n - (n - 1)) (cap - (n - 1))]).run Tryz.prog W1 = .ok (.tuple #[]) W2 := fun ty => by rw [show n - (n - 1) = 1 from by omega]; exact hcr ty
  clear hfin hW2 hL1 hW2e hW1e hcr hW1 hap hdr hsrc hcell hcl hnl hnews ht hlen hh hcs hk hz hsz hby hi hl hm hb
  by_cases hcap : cap = k + 1
  · rw [if_pos hcap] at hA
    injection hA with hA
    subst hA
    obtain rfl : n = k + 1 := by omega
    subst hcap
    rw [Nat.add_sub_cancel] at hap2 HF hcr2
    rw [Nat.sub_self] at hap2
    rw [Nat.add_sub_cancel_left] at hcr2
    have hne : ¬ k + 1 = k := by omega
    clear hkn hkc hnc hkn1 hn
    go_enter Tryz.func125, Tryz.ntmps125
    go_upto_region 5 with (fail)
    go_region
    go_wp2
    go_ret
    exact HF.out
  · rw [if_neg hcap] at hA
    injection hA with hA
    subst hA
    have hne : ¬ cap = n - 1 := by omega
    have e1 : ((n - 1 : Nat) : Int) = (n : Int) - 1 := by omega
    have hkb : (k : Int) + 1 ≤ (n : Int) := by omega
    have hnb : (n : Int) ≤ (cap : Int) := by omega
    clear hn hkn
    go_enter Tryz.func125, Tryz.ntmps125
    go_upto_region 5 with (fail)
    go_region
    go_wp2
    go_ret
    exact HF.out
end
end Go.Proofs.YtpklkefnmoaaaaaGreatDoor

/- proof.Places walked. -/
namespace Go.Proofs.YtpklkefnmoaaaaaGreatDoor
open Go.RowKit
set_option linter.unusedVariables false
set_option linter.unusedSimpArgs false
theorem UOwn.rd {w : World} {B : Nat} {a : Option Addr} {cap n : Nat} {l : List Nat} (h : UOwn w B (.slice a n cap) l) : n = l.length ∧ Rd w 1 a l.length (l.map fun (n : Nat) => Value.int .u64 (n : Int)) := by
  obtain ⟨a', cap', hv, hr⟩ := h.cells
  injection hv with e1 e2 e3
  subst e1 e2 e3
  refine ⟨rfl, by simp, fun hn => ?_⟩
  rcases hr with hr | ⟨b, o, ha, hb, hr⟩
  · rw [hr] at hn; simp at hn
  · refine ⟨b, o, ha, fun j u hu => ?_⟩
    rw [List.getElem?_map] at hu
    obtain ⟨x, hx, rfl⟩ := Option.map_eq_some_iff.1 hu
    obtain ⟨hj, rfl⟩ := List.getElem?_eq_some_iff.1 hx
    exact hr j hj
theorem UOwn.shpU {w : World} {B : Nat} {v : Value} {l : List Nat} (h : UOwn w B v l) : ∃ a cap, v = .slice a l.length cap := by
  obtain ⟨a', cap', hv, hr⟩ := h.cells
  exact ⟨a', cap', hv⟩
theorem UOwn.appendUU {w : World} {B B2 : Nat} {v v2 : Value} {l l2 : List Nat} (h : UOwn w B v l) (h2 : UOwn w B2 v2 l2) (hlen : l.length + l2.length ≤ 4294967296) (hB : B ≤ w.heap.size) (ty : TypeId) :
    ∃ v' w', (Builtin.append_ #[44, 44] ty #[v, v2]).run Tryz.prog w = .ok v' w' ∧ UOwn w' B v' (l ++ l2) ∧ Chg (ob v) w w' ∧ (∀ k ∈ ob v', k ∈ ob v ∨ w.heap.size ≤ k) := by
  obtain ⟨a, cap, rfl⟩ := h2.shpU
  obtain ⟨_, hrd⟩ := h2.rd
  obtain ⟨i, hi, hz, hsz, hby⟩ := infoOfU i_u64
  obtain ⟨v', w', hr, h2, h3, h4⟩ := run_append_any (P := Tryz.prog) w B 44 ty 38 i _ 1 8 u_u64s hi hz hsz hby rfl (by decide) v l.length _ h a l2.length cap _ hrd
    (fun u hu => by
      obtain ⟨x, _, rfl⟩ := List.mem_map.1 hu
      rfl) (by unfold maxLen; omega) (by omega) hB
  refine ⟨v', w', hr, ?_, h3, h4⟩
  unfold UOwn
  rw [List.length_append, List.map_append]
  exact h2
def PlacesP (l : List Nat) (w : World) (e : Ending) (w' : World) : Prop := ∃ a cap, e = .returned (.tuple #[.slice a l.length cap, .int .i64 0]) ∧ UOwn w' w.heap.size (.slice a l.length cap) l ∧ Chg [] w w'
theorem pathN_len (i n : Nat) : (pathN i n).length = hgt i n := by simp [pathN]
theorem placesN_len {i n : Nat} (hi : i < n) (hn : n ≤ 4611686018427387904) : (placesN i n).length ≤ 125 := by
  obtain ⟨_, _, h62, _⟩ := hgt_spec hi hn
  unfold placesN
  have h1 := pathN_len i n
  have h2 := pkL_len n 63
  have h3 : (peaksN n).length = (pkL n 63).length := rfl
  have h4 := List.length_eraseIdx_le (peaksN n) (ownN i n)
  rw [List.length_append]
  omega
set_option maxRecDepth 100000 in
set_option maxHeartbeats 4000000 in
theorem places_ok (i n : Nat) (hi : i < n) (hn : n ≤ 4611686018427387904) (w : World) : Calls Tryz.prog 43 #[.int .u64 i, .int .u64 n] w (PlacesP (placesN i n) w) := by
  obtain ⟨_, _, h62, _⟩ := hgt_spec hi hn
  have hpa := Path_ok i n hi hn w
  have hpk := fun W => Peak_ok i n hi hn W
  have hps := fun W => peaksl_calls n hn W
  have hlt : ownN i n < (peaksN n).length := by rw [peaks_len]; exact ownN_lt hi hn
  have hp63 : (peaksN n).length ≤ 63 := pkL_len n 63
  have hdl := fun (W : World) (B : Nat) (v : Value) (hU : UOwn W B v (peaksN n)) => delete_calls W B v (peaksN n) hU (ownN i n) hlt (by omega)
  have hl1 : (pathN i n).length ≤ 62 := by rw [pathN_len]; exact h62
  have hl2 : ((peaksN n).eraseIdx (ownN i n)).length ≤ 63 := Nat.le_trans (List.length_eraseIdx_le _ _) hp63
  have hple : placesN i n = pathN i n ++ (peaksN n).eraseIdx (ownN i n) := rfl
  rw [hple]
  have hob : ownN i n ≤ 63 := by omega
  have hd : decide ((4611686018427387904 : Int) < (n : Int)) = false := decide_eq_false (by omega)
  have HDL := Lib.hid hdl
  clear hdl hlt hple h62
  generalize (peaksN n).eraseIdx (ownN i n) = E at *
  generalize peaksN n = K at *
  generalize pathN i n = L at *
  generalize ownN i n = O at *
  go_enter Tryz.func43, Tryz.ntmps43
  go_wp2_with fail
  go_at_call 123
  refine hpa.mono ?_
  rintro e w1 ⟨va, rfl, hUa, hc1⟩
  go_wp2_with fail
  go_at_call 124
  refine (hpk _).mono ?_
  rintro e w1' ⟨rfl, hw1⟩
  obtain rfl : w1 = w1' := hw1.symm
  go_wp2_with fail
  go_at_call 42
  refine (hps _).mono ?_
  rintro e w2 ⟨vb, rfl, hUb, hc2⟩
  have hdd := HDL.out w2 _ vb hUb
  rw [show ((O + 1 : Nat) : Int) = (O : Int) + 1 from by omega] at hdd
  go_wp2_with fail
  go_at_call 125
  refine hdd.mono ?_
  rintro e w3 ⟨vc, rfl, hUc, hc3, hob3⟩
  have hUa3 := own_chg (own_chg hUa hc2 (by simp)) hc3 (fun k hk hk2 => by
    have := (own_lt hUa k hk).2
    have := (own_lt hUb k hk2).1
    omega)
  have hc03 : Chg [] w w3 := (hc1.nil_trans hc2).trans hc3 (fun k hk => .inr (by have := (own_lt hUb k hk).1; have := hc1.size; omega))
  have hUa3' : UOwn w3 w.heap.size va L := hUa3
  obtain ⟨v4, w4, hrun, hU4, hc4, hb4⟩ := hUa3'.appendUU hUc (by omega) hc03.size 44
  have hfin : PlacesP (L ++ E) w (.returned (.tuple #[v4, .int .i64 0])) w4 := by
    obtain ⟨a, cap, rfl⟩ := hU4.shpU
    exact ⟨a, cap, rfl, hU4, hc03.trans hc4 (fun k hk => .inr (own_lt hUa3' k hk).1)⟩
  have HF := Lib.hid hfin
  clear hfin hU4 hc4 hb4 hUa hUb hUc hUa3 hUa3' hc3 hdd
  go_wp2_with (at_builtin; refine Lib.wpList_append_run _ rfl _ _ _ _ rfl _ _ rfl rfl _ _ hrun ?_)
  go_ret2
  exact HF.out
theorem Path_bad (i n : Nat) (h : 4611686018427387904 < n ∨ n ≤ i) (h1 : i < 18446744073709551616) (h2 : n < 18446744073709551616) (w : World) : Calls Tryz.prog 123 #[.int .u64 i, .int .u64 n] w fun e w' => e = .returned (.tuple #[.slice none 0 0, .bool false]) ∧ w' = w := by
  have hpk := fun W => Peak_bad i n h h1 h2 W
  go_enter Tryz.func123, Tryz.ntmps123
  go_wp2_with (go_at_call 124; refine (hpk _).mono ?_; rintro e w1 ⟨rfl, hw1⟩; obtain rfl : w = w1 := hw1.symm)
  go_ret2
  exact ⟨rfl, rfl⟩
theorem places_bad (i n : Nat) (h : n ≤ i) (hn : n ≤ 4611686018427387904) (h1 : i < 18446744073709551616) (w : World) : Calls Tryz.prog 43 #[.int .u64 i, .int .u64 n] w fun e w' => e = .returned (.tuple #[.slice none 0 0, .int .i64 32]) ∧ w' = w := by
  have hpa := fun W => Path_bad i n (.inr h) h1 (by omega) W
  have hd : decide ((4611686018427387904 : Int) < (n : Int)) = false := decide_eq_false (by omega)
  go_enter Tryz.func43, Tryz.ntmps43
  go_wp2_with (go_at_call 123; refine (hpa _).mono ?_; rintro e w1 ⟨rfl, hw1⟩; obtain rfl : w = w1 := hw1.symm)
  go_ret2
  exact ⟨rfl, rfl⟩
end Go.Proofs.YtpklkefnmoaaaaaGreatDoor

/- The document's places of a leaf's proof: Sibling anywhere, Peak, Path walked. -/
namespace Go.Proofs.YtpklkefnmoaaaaaGreatDoor
open Go.RowKit
set_option linter.unusedVariables false
set_option linter.unusedSimpArgs false
set_option maxRecDepth 100000 in
set_option maxHeartbeats 4000000 in
theorem r3sibG_calls (h k : Nat) (hh : h ≤ 61) (hk : k < 2 ^ (62 - h)) (w : World) : Calls Tryz.prog 167 #[.int .u64 (pl h k : Nat)] w (Res w [] (.tuple #[.int .u64 (pl h (k ^^^ 1) : Nat), .bool true])) := by
  have hpw : 2 ^ (62 - h) * 2 ^ h = 4611686018427387904 := by rw [← Nat.pow_add, Nat.sub_add_cancel (by omega)]
  have hle : (k + 1) * 2 ^ h ≤ 4611686018427387904 := by rw [← hpw]; exact Nat.mul_le_mul_right _ hk
  have hP := Nat.two_pow_pos h
  have hk1 := Nat.le_mul_of_pos_right (k + 1) hP
  have hsp := fun W => r3spot_calls ((k + 1) * 2 ^ h - 1) h (by omega) (t1_pow h (k + 1) (by omega)) W
  have hdv : ((k + 1) * 2 ^ h - 1) / 2 ^ h = k := by
    have e : (k + 1) * 2 ^ h - 1 = 2 ^ h - 1 + 2 ^ h * k := by
      rw [Nat.add_mul, Nat.one_mul, Nat.mul_comm k]; omega
    rw [e, Nat.add_mul_div_left _ _ hP, Nat.div_eq_of_lt (by omega), Nat.zero_add]
  rw [hdv] at hsp
  have hx : k ^^^ 1 < 2 ^ (62 - h) := by
    have h1 : 1 < 2 ^ (62 - h) := Nat.one_lt_two_pow (by omega)
    exact Nat.xor_lt_two_pow hk h1
  have hpl := fun W => r3place_calls h (k ^^^ 1) (by omega) hx W
  have hp1 : nodesN (((k ^^^ 1) + 1) * 2 ^ h - 1) + h = pl h (k ^^^ 1) := rfl
  have hp2 : nodesN ((k + 1) * 2 ^ h - 1) + h = pl h k := rfl
  rw [hp1] at hpl
  rw [hp2] at hsp
  have hne : ((h : Int) == 62) = false := by rw [beq_eq_false_iff_ne]; omega
  have hkb : k < 4611686018427387904 := by omega
  have hxo := xor_one k
  clear hp1 hp2 hdv hpw hle hP hk1 hx hk
  generalize pl h (k ^^^ 1) = T at *
  generalize pl h k = P at *
  by_cases hpar : k % 2 = 1
  · have hb : ((k : Int) % 2 == 1) = true := by rw [beq_iff_eq]; omega
    have hk1 : 1 ≤ k := by omega
    have e1 : ((k ^^^ 1 : Nat) : Int) = (k : Int) - 1 := by rw [hxo, if_neg (by omega)]; omega
    rw [e1] at hpl
    clear hxo e1
    go_enter Tryz.func167, Tryz.ntmps167
    go_wp2_with (first
      | (go_at_call 166; refine (hsp _).mono ?_; rintro e w1 ⟨rfl, hc1⟩)
      | (go_at_call 133; refine (hpl _).mono ?_; rintro e w2 ⟨rfl, hc2⟩))
    go_ret2
    exact ⟨rfl, (hc1.alloc _).nil_trans hc2⟩
  · have hb : ((k : Int) % 2 == 1) = false := by rw [beq_eq_false_iff_ne]; omega
    have e1 : ((k ^^^ 1 : Nat) : Int) = (k : Int) + 1 := by rw [hxo, if_pos (by omega)]; omega
    rw [e1] at hpl
    clear hxo e1
    go_enter Tryz.func167, Tryz.ntmps167
    go_wp2_with (first
      | (go_at_call 166; refine (hsp _).mono ?_; rintro e w1 ⟨rfl, hc1⟩)
      | (go_at_call 133; refine (hpl _).mono ?_; rintro e w2 ⟨rfl, hc2⟩))
    go_ret2
    exact ⟨rfl, (hc1.alloc _).nil_trans hc2⟩
set_option maxRecDepth 100000 in
set_option maxHeartbeats 4000000 in
theorem r3peak_ok (i n : Nat) (hi : i < n) (hn : n ≤ 4611686018427387904) (w : World) : Calls Tryz.prog 110 #[.int .u64 i, .int .u64 n] w (Res w [] (.tuple #[.int .i64 (ownN i n : Nat), .bool true])) := by
  have htop := fun W => r3tops_calls n hn W
  have hlen : (topsN n).length ≤ 63 := toL_le n 63
  have hol := ownN_lt hi hn
  have hat := fun k (hk : k < (topsN n).length) => own_at hi hn hk
  have hmem := fun k (hk : k < (topsN n).length) => tops_mem (List.getElem_mem hk)
  have hge : decide (n ≤ i) = false := decide_eq_false (by omega)
  have HAT := Lib.hid hat
  have HME := Lib.hid hmem
  clear hat hmem
  go_enter Tryz.func110, Tryz.ntmps110
  go_wp2_with (go_at_call 131; refine (htop _).mono ?_; rintro e w1 ⟨tv, rfl, hT, hc1⟩; obtain ⟨ta, tcap, rfl, htc⟩ := hT.cells)
  clear htop hT
  obtain ⟨w0, rfl⟩ : ∃ w0 : World, w0 = w := ⟨_, rfl⟩
  have HTC := Lib.hid htc
  clear htc
  generalize hO : ownN i n = O at *
  have HOO := Lib.hid hO
  clear hO
  go_loopg [7] (O + 1) (fun g ii wx => ∃ k : Nat, k ≤ O ∧ g = O + 1 - k ∧ ii = .int .i64 k ∧ Chg [] w1 wx)
  case atStart => exact ⟨0, by omega, by omega, rfl, Chg.refl _ _⟩
  case round =>
    obtain ⟨k, hk, hg, rfl, hC⟩ := hrel
    have HG := Lib.hid hg
    clear hg
    have hkl : k < (topsN n).length := by omega
    rcases HTC.out with htc | ⟨pb, rfl, hpb, htc⟩
    · rw [htc] at hkl; simp at hkl
    obtain ⟨q1, q2⟩ := htc k hkl
    have c1 := (hC.cell (p := ⟨pb, k * 2, none⟩) hpb (by simp)).trans q1
    have c2 := (hC.cell (p := ⟨pb, k * 2 + 1, none⟩) hpb (by simp)).trans q2
    have hbl : pb < wr.heap.size := Nat.lt_of_lt_of_le hpb hC.size
    obtain ⟨m1, m2, m3⟩ := HME.out k hkl
    have hat := HAT.out k hkl
    have hpw := fun W => r3power_calls (topsN n)[k].1 m1 W
    have hq : i / 2 ^ (topsN n)[k].1 ≤ i := Nat.div_le_self _ _
    have hdv : (i : Int) / ((2 ^ (topsN n)[k].1 : Nat) : Int) = ((i / 2 ^ (topsN n)[k].1 : Nat) : Int) := by simp
    have hpz := Nat.two_pow_pos (topsN n)[k].1
    have hpz2 : 2 ^ (topsN n)[k].1 ≤ 4611686018427387904 := Nat.pow_le_pow_right (show 0 < 2 from by omega) m1
    have hx2 : (topsN n)[k].2 ≤ n := by rw [m3]; exact Nat.le_trans (Nat.sub_le _ _) (Nat.div_le_self _ _)
    clear htc q1 q2 m2 m3 HME HAT
    by_cases he : k = O
    · have heq : (((i / 2 ^ (topsN n)[k].1 : Nat) : Int) == ((topsN n)[k].2 : Int)) = true := by
        rw [beq_iff_eq, hat.2 he]
      clear hat
      generalize i / 2 ^ (topsN n)[k].1 = Q at *
      generalize 2 ^ (topsN n)[k].1 = P at *
      generalize (topsN n)[k] = x at *
      subst he
      go_upto_region 8 with (go_at_call 174; refine (hpw _).mono ?_; rintro e w3 ⟨rfl, hw3⟩; obtain rfl : wr = w3 := hw3.symm)
      go_quiet (fail)
      go_wp2
      go_ret2
      exact ⟨rfl, hc1.nil_trans (hC.drewN _)⟩
    · have heq : (((i / 2 ^ (topsN n)[k].1 : Nat) : Int) == ((topsN n)[k].2 : Int)) = false := by
        rw [beq_eq_false_iff_ne]
        intro e
        exact he (hat.1 (by omega))
      clear hat
      generalize i / 2 ^ (topsN n)[k].1 = Q at *
      generalize 2 ^ (topsN n)[k].1 = P at *
      generalize (topsN n)[k] = x at *
      go_upto_region 8 with (go_at_call 174; refine (hpw _).mono ?_; rintro e w3 ⟨rfl, hw3⟩; obtain rfl : wr = w3 := hw3.symm)
      go_quiet (fail)
      go_wp2
      go_roundg (O + 1 - (k + 1))
      case measure => rw [HG.out]; omega
      case rel => exact ⟨k + 1, by omega, rfl, by go_num, hC.drewN _⟩
end Go.Proofs.YtpklkefnmoaaaaaGreatDoor

/- The document's places of a leaf's proof: Path, Places walked. -/
namespace Go.Proofs.YtpklkefnmoaaaaaGreatDoor
open Go.RowKit
set_option linter.unusedVariables false
set_option linter.unusedSimpArgs false
set_option maxRecDepth 100000 in
set_option maxHeartbeats 8000000 in
theorem r3path_ok (i n : Nat) (hi : i < n) (hn : n ≤ 4611686018427387904) (w : World) : Calls Tryz.prog 109 #[.int .u64 i, .int .u64 n] w (PathP (pathN i n) w) := by
  obtain ⟨_, _, h62, _⟩ := hgt_spec hi hn
  have hpk := fun W => r3peak_ok i n hi hn W
  have htop := fun W => r3tops_calls n hn W
  have htl : (topsN n).length ≤ 63 := toL_le n 63
  have hol := ownN_lt hi hn
  have howe : (topsN n)[ownN i n].1 = hgt i n := by
    have h1 := (own_at hi hn hol).2 rfl
    have hm := tops_mem (List.getElem_mem hol)
    rw [hm.2.2] at h1
    exact (hgt_uniq hi hn hm.2.1).1 h1
  have hlen := pathN_len i n
  have htk := fun c (hc : c < hgt i n) => pathN_take i n c hc
  have hkb : ∀ h, h < hgt i n → i / 2 ^ h < 2 ^ (62 - h) := fun h hh => by
    rw [Nat.div_lt_iff_lt_mul (Nat.two_pow_pos h), ← Nat.pow_add, Nat.sub_add_cancel (by omega)]
    have : (2 : Nat) ^ 62 = 4611686018427387904 := by decide
    omega
  have hpl : ∀ h, h < hgt i n → ∀ W, Calls Tryz.prog 133 #[.agg #[.int .u8 h, .int .u64 (i / 2 ^ h : Nat)]] W (Res W [] (.tuple #[.int .u64 (pl h (i / 2 ^ h) : Nat), .bool true])) := fun h hh W => r3place_calls h _ (by omega) (hkb h hh) W
  have hsi : ∀ h, h < hgt i n → ∀ W, Calls Tryz.prog 167 #[.int .u64 (pl h (i / 2 ^ h) : Nat)] W (Res W [] (.tuple #[.int .u64 (pl h (i / 2 ^ h ^^^ 1) : Nat), .bool true])) := fun h hh W => r3sibG_calls h _ (by omega) (hkb h hh) W
  have hhalf : ∀ h, i / 2 ^ h / 2 = i / 2 ^ (h + 1) := fun h => by rw [Nat.div_div_eq_div_mul, ← Nat.pow_succ]
  have hdb : ∀ h, i / 2 ^ h ≤ i := fun h => Nat.div_le_self _ _
  have HTK := Lib.hid htk
  have HPL := Lib.hid hpl
  have HSI := Lib.hid hsi
  have HHF := Lib.hid hhalf
  have HLEN := Lib.hid hlen
  have HDB := Lib.hid hdb
  clear htk hpl hsi hhalf hkb hlen hdb
  generalize pathN i n = L at *
  generalize hgt i n = H at *
  obtain ⟨O, hO⟩ : ∃ O, ownN i n = O := ⟨_, rfl⟩
  have howe2 : ∀ (h : O < (topsN n).length), (topsN n)[O].1 = H := by subst hO; exact fun _ => howe
  rw [hO] at hpk hol
  clear howe hO
  go_enter Tryz.func109, Tryz.ntmps109
  go_wp2_with fail
  go_at_call 110
  refine (hpk _).mono ?_
  rintro e w1 ⟨rfl, hc1⟩
  go_wp2_with fail
  go_at_call 131
  refine (htop _).mono ?_
  rintro e w2 ⟨tv, rfl, hT, hc2⟩
  obtain ⟨ta, tcap, rfl, htc⟩ := hT.cells
  rcases htc with htc | ⟨pb, rfl, hpb, htc⟩
  · rw [htc] at hol; simp at hol
  obtain ⟨q1, q2⟩ := htc O hol
  rw [howe2 hol] at q1
  have hOi : (O : Int) < ((topsN n).length : Int) := by omega
  have hO0 : (0 : Int) ≤ (O : Int) := by omega
  have hc02 : Chg [] w w2 := hc1.nil_trans hc2
  clear hT htc q2 howe2 htop hpk hc1 hc2 htl hol
  have h62' : H ≤ 62 := h62
  have p0 : pb < w2.heap.size := hpb
  go_wp2_with fail
  generalize hbx : w2.alloc _ = wb
  have hS : wb.heap[w2.heap.size]? = some (.cells #[.int .u8 0, .int .u64 i] 178 (0, 0)) := by rw [← hbx]; exact blk_new _ _
  have hSw : w.heap.size ≤ w2.heap.size := hc02.size
  have hcb : Chg [] w wb := by rw [← hbx]; exact hc02.alloc _
  clear q1 hbx p0 hpb hOi hO0 hc02
  generalize w2.heap.size = S at *
  obtain ⟨w0, rfl⟩ : ∃ w0 : World, w0 = w := ⟨_, rfl⟩
  go_loopg [8] H (fun g vv wx => ∃ h : Nat, h ≤ H ∧ g = H - h ∧ UOwn wx w0.heap.size vv (L.take h) ∧ wx.heap[S]? = some (.cells #[.int .u8 h, .int .u64 (i / 2 ^ h : Nat)] 178 (0, 0)) ∧ S ∉ ob vv ∧ Chg [] w0 wx)
  case atStart => exact ⟨0, by omega, by omega, UOwn.nil _ _, by rw [Nat.pow_zero, Nat.div_one]; exact hS, by simp [ob, Value.ownBlock], hcb⟩
  case round =>
    clear hS hcb
    obtain ⟨h, hh, hg, hO, hbx, hSo, hC⟩ := hrel
    have HG := Lib.hid hg
    clear hg
    have c0 := blk_cell hbx 0 rfl
    have c1 := blk_cell hbx 1 rfl
    have hSl := blk_lt hbx
    by_cases hlt : h < H
    · have hpl := HPL.out h hlt
      have hsi := HSI.out h hlt
      have hdb := HDB.out h
      have hdb2 := HDB.out (h + 1)
      have hhf := HHF.out h
      have htk := HTK.out h hlt
      have hlL : (L.take h).length ≤ 62 := by rw [List.length_take]; omega
      have hdv : ((i / 2 ^ h : Nat) : Int) / 2 = ((i / 2 ^ (h + 1) : Nat) : Int) := by rw [← hhf]; simp
      have HT := Lib.hid htk
      clear htk hhf HPL HSI HDB HHF HTK
      generalize pl h (i / 2 ^ h ^^^ 1) = pp at *
      generalize pl h (i / 2 ^ h) = qq at *
      generalize hX2 : i / 2 ^ (h + 1) = X2 at *
      generalize hX1 : i / 2 ^ h = X1 at *
      have HX2 := Lib.hid hX2
      have HX1 := Lib.hid hX1
      clear hX1 hX2
      go_upto_region 10 with (first
        | (go_at_call 133; refine (hpl _).mono ?_; rintro e w3 ⟨rfl, hc3⟩)
        | (go_at_call 167; refine (hsi _).mono ?_; rintro e w4 ⟨rfl, hc4⟩))
      have hO1 : UOwn w4 w0.heap.size _ _ := own_chg (own_chg hO hc3 (by simp)) hc4 (by simp)
      have hbx1 := hc4.at (hc3.at hbx (by simp)) (by simp)
      obtain ⟨v2, w5, hrun, hO2, hc5, hob⟩ := hO1.push pp (by omega) (by have := hC.size; have := hc3.size; have := hc4.size; omega) 44
      have hol := own_lt hO1
      have HW : Chg [] w0 w5 := ((hC.nil_trans hc3).nil_trans hc4).trans hc5 (fun k hk => .inr (hol k hk).1)
      have hbx2 := hc5.at hbx1 hSo
      have hSl4 := blk_lt hbx1
      have hSo2 : S ∉ ob v2 := fun hm => by
        rcases hob S hm with q | q
        · exact hSo q
        · omega
      have d0 := blk_cell hbx2 0 rfl
      have d1 := blk_cell hbx2 1 rfl
      have e0 := blk_frozen hbx2 0
      have e1 := blk_frozen hbx2 1
      have hSl5 := blk_lt hbx2
      have HO2 := Lib.hid hO2
      clear hO hO1 hol hob hc5 hc3 hc4 hpl hsi hO2 hbx1 c0 c1
      go_wp2_with (at_builtin; refine Lib.wpList_append_run _ rfl _ _ _ _ rfl _ _ rfl rfl _ _ hrun ?_)
      go_roundg (H - (h + 1))
      case measure => rw [HG.out]; omega
      case rel =>
        refine ⟨h + 1, by omega, rfl, ?_, ?_, hSo2, ?_⟩
        · rw [HT.out]
          exact own_chg HO2.out (F := [S]) (((Chg.refl [S] w5).setCell (.inl (by simp)) _).setCell (.inl (by simp)) _) (fun k hk hm => by simp at hm; subst hm; exact hSo2 hk)
        · rw [HX2.out]
          exact blk_set (blk_set hbx2 0 _) 1 _
        · exact (HW.setCell (.inr hSw) _).setCell (.inr hSw) _
    · obtain rfl : h = H := by omega
      rw [← HLEN.out, List.take_length] at hO
      have HO := Lib.hid hO
      clear hO
      go_wp2
      go_ret2
      exact ⟨_, rfl, HO.out, hC⟩
theorem er_step (K : List Nat) (O k : Nat) (hk : k < K.length) : (K.take (k + 1)).eraseIdx O = (K.take k).eraseIdx O ++ (if k = O then [] else [K[k]]) := by
  rw [List.take_succ_eq_append_getElem hk]
  have hl : (K.take k).length = k := by rw [List.length_take]; omega
  rcases Nat.lt_trichotomy k O with q | q | q
  · rw [if_neg (by omega), List.eraseIdx_of_length_le (by rw [List.length_append, hl]; simp; omega), List.eraseIdx_of_length_le (by omega)]
  · subst q
    rw [if_pos rfl, List.eraseIdx_append_of_length_le (by omega), List.eraseIdx_of_length_le (by omega : (K.take k).length ≤ k), hl, Nat.sub_self]
    rfl
  · rw [if_neg (by omega), List.eraseIdx_append_of_lt_length (by omega)]
set_option maxRecDepth 100000 in
set_option maxHeartbeats 8000000 in
theorem r7places_ok (i n : Nat) (hi : i < n) (hn : n ≤ 4611686018427387904) (w : World) : Calls Tryz.prog 25 #[.int .u64 i, .int .u64 n] w (PlacesP (placesN i n) w) := by
  obtain ⟨_, _, h62, _⟩ := hgt_spec hi hn
  have hpa := r3path_ok i n hi hn w
  have hpk := fun W => r3peak_ok i n hi hn W
  have hps := fun W => r3peaks_calls n hn W
  have hlt : ownN i n < (peaksN n).length := by rw [peaks_len]; exact ownN_lt hi hn
  have hp63 : (peaksN n).length ≤ 63 := pkL_len n 63
  have hl1 : (pathN i n).length ≤ 62 := by rw [pathN_len]; exact h62
  have hple : placesN i n = pathN i n ++ (peaksN n).eraseIdx (ownN i n) := rfl
  rw [hple]
  have hd : decide ((4611686018427387904 : Int) < (n : Int)) = false := decide_eq_false (by omega)
  have hd2 : decide (n ≤ i) = false := decide_eq_false (by omega)
  clear hple h62
  generalize peaksN n = K at *
  generalize pathN i n = L at *
  generalize ownN i n = O at *
  go_enter Tryz.func25, Tryz.ntmps25
  go_wp2_with (first
    | (go_at_call 109; refine hpa.mono ?_; rintro e w1 ⟨va, rfl, hUa, hc1⟩)
    | (go_at_call 110; refine (hpk _).mono ?_; rintro e w2 ⟨rfl, hc2⟩)
    | (go_at_call 111; refine (hps _).mono ?_; rintro e w3 ⟨vb, rfl, hUb, hc3⟩))
  have hUa3 := own_chg (own_chg hUa hc2 (by simp)) hc3 (by simp)
  have hc03 : Chg [] w w3 := (hc1.nil_trans hc2).nil_trans hc3
  have hap : ∀ k ∈ ob va, k ∉ ob vb := fun k hk hk2 => by
    have := (own_lt hUa k hk).2
    have := (own_lt hUb k hk2).1
    have := hc2.size
    omega
  obtain ⟨ba, bcap, rfl⟩ := hUb.shpU
  have hst := er_step K O
  have HST := Lib.hid hst
  clear hUa hc1 hc2 hc3 hst hpa hpk hps
  generalize w2.heap.size = B2 at *
  obtain ⟨w0, rfl⟩ : ∃ w0 : World, w0 = w := ⟨_, rfl⟩
  go_loopg [6, 11] K.length (fun g vv kk wx => ∃ k : Nat, k ≤ K.length ∧ g = K.length - k ∧ kk = .int .i64 k ∧ UOwn wx w0.heap.size vv (L ++ (K.take k).eraseIdx O) ∧ UOwn wx B2 (.slice ba K.length bcap) K ∧ (∀ k ∈ ob vv, k ∉ ob (.slice ba K.length bcap)) ∧ Chg [] w0 wx)
  case atStart => exact ⟨0, by omega, by omega, rfl, by rw [List.take_zero, List.eraseIdx_nil, List.append_nil]; exact hUa3, hUb, hap, hc03⟩
  case round =>
    clear hUa3 hUb hap hc03
    obtain ⟨k, hk, hg, rfl, hO, hB, hap, hC⟩ := hrel
    have HG := Lib.hid hg
    clear hg
    by_cases hlt2 : k < K.length
    · have hstp := HST.out k hlt2
      have HT := Lib.hid hstp
      by_cases hko : k = O
      · have hne : ((k : Int) != (O : Int)) = false := by simp [hko]
        have e0 : (K.take (k + 1)).eraseIdx O = (K.take k).eraseIdx O := by rw [hstp, if_pos hko, List.append_nil]
        rw [← e0] at hO
        have HF := Lib.hid hO
        clear e0
        clear hstp hO HST
        go_wp2
        go_roundg (K.length - (k + 1))
        case measure => rw [HG.out]; omega
        case rel => exact ⟨k + 1, by omega, rfl, by go_num, HF.out, hB, hap, hC⟩
      · have hne : ((k : Int) != (O : Int)) = true := by rw [bne_iff_ne]; omega
        obtain ⟨a', cap', hv, hrd⟩ := hB.cells
        injection hv with e1 e2 e3
        subst e1 e3
        rcases hrd with hrd | ⟨pb, po, rfl, hpb, hrd⟩
        · rw [hrd] at hlt2; simp at hlt2
        have q1 := hrd k hlt2
        have hlen : (L ++ (K.take k).eraseIdx O).length ≤ 125 := by
          have := List.length_eraseIdx_le (K.take k) O
          rw [List.length_append]
          rw [List.length_take] at this
          omega
        obtain ⟨v2, w5, hrun, hO2, hc5, hob⟩ := hO.push K[k] (by omega) hC.size 44
        have hol := own_lt hO
        have HW : Chg [] w0 w5 := hC.trans hc5 (fun k hk => .inr (hol k hk).1)
        have hB5 := own_chg hB hc5 (fun k hk hk2 => hap k hk2 hk)
        have hap5 : ∀ k ∈ ob v2, k ∉ ob (.slice (some ⟨pb, po, none⟩) K.length bcap) := fun k hk hk2 => by
          rcases hob k hk with q | q
          · exact hap k q hk2
          · have := (own_lt hB k hk2).2
            omega
        have HF : UOwn w5 w0.heap.size v2 (L ++ (K.take (k + 1)).eraseIdx O) := by rw [hstp, if_neg hko, ← List.append_assoc]; exact hO2
        have HF := Lib.hid HF
        have HAP := Lib.hid hap5
        have HB5 := Lib.hid hB5
        clear hstp hO HST hO2 hol hrd hB hap hob hc5 hB5 hap5
        generalize K[k] = x at *
        go_wp2_with (at_builtin; refine Lib.wpList_append_run _ rfl _ _ _ _ rfl _ _ rfl rfl _ _ hrun ?_)
        go_roundg (K.length - (k + 1))
        case measure => rw [HG.out]; omega
        case rel => exact ⟨k + 1, by omega, rfl, by go_num, HF.out, HB5.out, HAP.out, HW⟩
    · obtain rfl : k = K.length := by omega
      rw [List.take_length] at hO
      have HO := Lib.hid hO
      clear hO
      go_wp2
      go_ret2
      obtain ⟨a, cap, rfl⟩ := HO.out.shpU
      exact ⟨a, cap, rfl, HO.out, hC⟩
end Go.Proofs.YtpklkefnmoaaaaaGreatDoor

/- Texts put into one by pack.py: RfL. -/
import Derived.Test.YtpklkefnmoaaaaaGreatDoorPkK
import Derived.Test.YtpklkefnmoaaaaaGreatDoorTrDp
/- The document's Bag walked; what both Bags answer. -/
namespace Go.Proofs.YtpklkefnmoaaaaaGreatDoor
open Go.RowKit
set_option linter.unusedVariables false
set_option linter.unusedSimpArgs false

theorem r2foldA_calls (w : World) (wd : Int) {x y : Array Value} (hx : IsHash x) (hy : IsHash y) : Calls Tryz.prog 215 #[.int .i64 wd, .agg x, .agg y] w (Res w [] (.agg (foldA wd x y))) := by
  obtain ⟨e1, l1, b1⟩ := hx.toN
  obtain ⟨e2, l2, b2⟩ := hy.toN
  have := r2fold_calls w wd _ _ l1 l2 b1 b2
  rw [e1, e2] at this
  exact this
theorem r2rootA_calls (w : World) (wd : Int) (n : Nat) (hn : n < 18446744073709551616) {x : Array Value} (hx : IsHash x) : Calls Tryz.prog 214 #[.int .i64 wd, .int .u64 n, .agg x] w (Res w [] (.agg (rootA wd n x))) := by
  obtain ⟨e1, l1, b1⟩ := hx.toN
  have := r2root_calls w wd n hn _ l1 b1
  rw [e1] at this
  exact this
theorem popc_pos : ∀ (k n : Nat), n < 2 ^ k → popc n = 0 → n = 0
  | 0, n, h, _ => by omega
  | k + 1, n, h, h0 => by
    rw [popc_two] at h0
    have := popc_pos k (n / 2) (by omega) (by omega)
    omega
theorem SpOwn.form {w : World} {B : Nat} {v : Value} {l : List (Nat × Nat)} (h : SpOwn w B v l) : ∃ a cap, v = .slice a l.length cap := by
  rcases h.2 with ⟨rfl, h0⟩ | ⟨g, cap, cur, rfl, _⟩
  · exact ⟨none, 0, by rw [h0]⟩
  · exact ⟨_, _, rfl⟩
structure BagJ (w0 wr : World) (L : Nat) (wd : Int) (hs : List (Array Value)) (c : Nat) : Prop where
  box : wr.heap[L]? = some (.cells (accA wd (hs.drop c)) 36 (0, 0))
  res : may wr w0.heap.size 0 32 = true
  chg : Chg [] w0 wr
  low : w0.heap.size < L
theorem BagJ.set {w0 wr W : World} {L : Nat} {wd : Int} {hs : List (Array Value)} {c c' : Nat} {x : Array Value} (h : BagJ w0 wr L wd hs c) (hW : Chg [] wr W) (hi : ∀ y ∈ hs, IsHash y) (hx : x = accA wd (hs.drop c')) : BagJ w0 (setRng W L 0 x) L wd hs c' := by
  have h1 : IsHash (accA wd (hs.drop c)) := accA_is wd _ (fun y hy => hi y (List.mem_of_mem_drop hy))
  have h2 : IsHash (accA wd (hs.drop c')) := accA_is wd _ (fun y hy => hi y (List.mem_of_mem_drop hy))
  have hl := h.low
  subst hx
  exact ⟨bag_box (hW.at h.box (by simp)) h1.1 h2.1, may_setRng _ _ _ _ _ _ _ (may_chg hW h.res (by have := Chg.size h.chg; have := blk_lt h.box; omega) (by simp)), (h.chg.nil_trans hW).setRng (.inr (by omega)) _ _, h.low⟩
theorem BagJ.start {w w1 : World} {wd : Int} {hs : List (Array Value)} (hC : Chg [] (w.alloc (.cells zeroHash 36)) w1) {x : Array Value} {c : Nat} (hx : x = accA wd (hs.drop c)) : BagJ w (w1.alloc (.cells x 36)) w1.heap.size wd hs c := by
  have hs1 := Chg.size hC
  rw [World.size_alloc] at hs1
  refine ⟨?_, ?_, (((Chg.refl _ _).alloc _).nil_trans hC).alloc _, by omega⟩
  · rw [← hx]
    exact blk_new w1 _
  · have := may_alloc_at w w.heap.size 32 zeroHash 36 rfl zeroHash_size
    exact may_chg (hC.alloc _) this (by omega) (by simp)
set_option maxRecDepth 100000 in
set_option maxHeartbeats 8000000 in
theorem r6bag_calls (w : World) (wd : Int) (n : Nat) (v : Value) (hs : List (Array Value)) (hv : HsIs w v hs) (hn : n ≤ 4611686018427387904) (hl : hs.length = popc n) :
    Calls Tryz.prog 170 #[.int .i64 wd, .int .u64 n, v] w (Res w [] (.tuple #[.agg (bagA wd n hs), .int .i64 0])) := by
  obtain ⟨hI, a, cap, rfl, hr⟩ := hv
  have hpo := popc_le n 63 (by have : (2 : Nat) ^ 63 = 9223372036854775808 := by decide
                               omega)
  have hzero := popc_pos 63 n (by have : (2 : Nat) ^ 63 = 9223372036854775808 := by decide
                                  omega)
  have htl := tops_length n (by have : (2 : Nat) ^ 63 = 9223372036854775808 := by decide
                                omega)
  have htop := fun W => r3tops_calls n hn W
  rw [← hl] at hpo hzero htl
  have hacc := accA_is wd
  have hnd : decide ((4611686018427387904 : Int) < (n : Int)) = false := decide_eq_false (by omega)
  obtain ⟨w0, rfl⟩ : ∃ w0 : World, w0 = w := ⟨_, rfl⟩
  have hm0 : ∀ w1, Chg [] (w0.alloc (.cells zeroHash 36)) w1 → may w1 w0.heap.size 0 32 = true := fun w1 hC => may_chg hC (may_alloc_at w0 w0.heap.size 32 zeroHash 36 rfl zeroHash_size) (by omega) (by simp)
  have hc0 : ∀ w1, Chg [] (w0.alloc (.cells zeroHash 36)) w1 → Chg [] w0 w1 := fun w1 hC => ((Chg.refl [] w0).alloc _).nil_trans hC
  have HM0 := Lib.hid hm0
  have HC0 := Lib.hid hc0
  have HTL := Lib.hid htl
  clear hl htl hm0 hc0
  by_cases h0 : hs.length = 0
  · obtain rfl := hzero h0
    obtain rfl : hs = [] := List.eq_nil_of_length_eq_zero h0
    have hz := zeroHash_is
    have hrt := fun W => r2rootA_calls W wd 0 (by omega) hz
    have hri := (rootA_is wd 0 hz).1
    have hri2 := (rootA_is wd 0 hz).one
    have HR : Shut (bagA wd 0 [] = rootA wd 0 zeroHash) := ⟨rfl⟩
    clear hacc hz hr hI h0 hpo hzero
    generalize bagA wd 0 [] = BB at *
    generalize rootA wd 0 zeroHash = R at *
    rw [List.length_nil] at *
    go_enter Tryz.func170, Tryz.ntmps170
    go_wp2_with (first
      | (go_at_call 131; refine (htop _).mono ?_; rintro e w1 ⟨v1, rfl, hO, hC⟩; obtain ⟨a1, cap1, rfl⟩ := hO.form; rw [HTL.out])
      | (go_at_call 214; refine (hrt _).mono ?_; rintro e w3 ⟨rfl, hc3⟩; have hm3 := HM0.out w3 (hC.nil_trans hc3)))
    refine bodyPost_ret (res_Hash2 rfl _ _ rfl (rng?_setRng_same _ _ _ _ _ hm3 hri)) rfl ⟨by rw [HR.out]; rfl, ?_⟩
    exact (HC0.out _ (hC.nil_trans hc3)).setRng (.inr (Nat.le_refl _)) _ _
  · obtain ⟨m, hm⟩ : ∃ m, hs.length = m + 1 := ⟨hs.length - 1, by omega⟩
    have hml : m < hs.length := by omega
    rcases hr with hr | ⟨pb, po, rfl, hpb, hr⟩
    · subst hr; simp at hml
    have hrm := hr m hml
    have hIm := hI hs[m] (List.getElem_mem hml)
    have hxm : hs[m] = accA wd (hs.drop m) := by
      rw [List.drop_eq_getElem_cons hml, ← hm, List.drop_length]
      rfl
    have hset := fun (w1 : World) hC => BagJ.start (w := w0) (w1 := w1) (wd := wd) (hs := hs) hC hxm
    have hrow1 := fun (w1 : World) (hC : Chg [] (w0.alloc (.cells zeroHash 36)) w1) => rng?_chg (HC0.out w1 hC) hrm (by omega) (by simp)
    have hlk1 := fun (w1 : World) (hC : Chg [] (w0.alloc (.cells zeroHash 36)) w1) => World.block_lt_of_cell? _ _ ((rng?_cell (hrow1 w1 hC)).2 0 (by rw [(rng?_cell (hrow1 w1 hC)).1]; omega))
    have HSET := Lib.hid hset
    replace HTL := Lib.hid (HTL.out.trans hm)
    have HM := Lib.hid hm
    have HR := Lib.hid hr
    have HI := Lib.hid hI
    have HROW := Lib.hid hrow1
    have HLK := Lib.hid hlk1
    have hs1 := hIm.1
    have hs2 := hIm.one
    clear hset hrow1 hlk1 hxm hIm hrm h0
    rw [hm] at hpo hml ⊢
    generalize hs[m] = x at *
    go_enter Tryz.func170, Tryz.ntmps170
    go_wp2_with (first
      | (go_at_call 131; refine (htop _).mono ?_; rintro e w1 ⟨v1, rfl, hO, hC⟩; obtain ⟨a1, cap1, rfl⟩ := hO.form; rw [HTL.out]; have hrw := HROW.out w1 hC; have hlk := HLK.out w1 hC))
    have hJ0 := HSET.out w1 hC
    have HJ0 := Lib.hid hJ0
    clear hJ0 hrw
    obtain ⟨L, hL⟩ : ∃ L, L = w1.heap.size := ⟨_, rfl⟩
    rw [← hL] at HJ0 ⊢
    clear hL hlk hO
    have hrm' := HR.out
    clear hr
    go_loopg [9] m (fun g ii wx => ∃ c : Nat, c ≤ m ∧ g = c ∧ ii = .int .i64 ((c : Int) - 1) ∧ BagJ w0 wx L wd hs c)
    case atStart => exact ⟨m, Nat.le_refl _, rfl, by go_num, HJ0.out⟩
    case round =>
      obtain ⟨c, hc, hg, rfl, hB⟩ := hrel
      have hlb := blk_lt hB.box
      cases c with
      | zero =>
        have hai := hacc hs HI.out
        have hrt := fun W => r2rootA_calls W wd n (by omega) hai
        have hri := rootA_is wd n hai
        have hbx := hB.box
        rw [List.drop_zero] at hbx
        have hlr := rng?_row hbx hai.1
        have hrs := hB.res
        have hch := hB.chg
        have hsl := hri.1
        have hro := hri.one
        have HRR : Shut (bagA wd n hs = rootA wd n (accA wd hs)) := ⟨rfl⟩
        clear hB hai hbx hri hg hacc hrm'
        generalize accA wd hs = A at *
        generalize hR : rootA wd n A = R at *
        have HR2 : Shut (rootA wd n A = R) := ⟨hR⟩
        clear hR
        go_wp2_with (go_at_call 214; refine (hrt _).mono ?_; rintro e w3 ⟨rfl, hc3⟩; have hm3 := may_chg hc3 hrs (by omega) (by simp))
        refine bodyPost_ret (res_Hash2 rfl _ _ rfl (rng?_setRng_same _ _ _ _ _ hm3 hsl)) rfl ⟨by rw [HRR.out]; rfl, ?_⟩
        exact (hch.nil_trans hc3).setRng (.inr (Nat.le_refl _)) _ _
      | succ k =>
        have hk1 : k < hs.length := by rw [HM.out]; omega
        have hkm : k < m + 1 := by omega
        rw [show (((k + 1 : Nat) : Int) - 1) = (k : Int) from by omega]
        have hrow := rng?_chg hB.chg (hrm' k hk1) (by omega) (by simp)
        have hlk := World.block_lt_of_cell? _ _ ((rng?_cell hrow).2 0 (by rw [(rng?_cell hrow).1]; omega))
        have hIk := HI.out hs[k] (List.getElem_mem hk1)
        have hdr := List.drop_eq_getElem_cons hk1
        have hmb := may_row (o := 0) (n := 32) hB.box (by rw [(hacc _ (fun y hy => HI.out y (List.mem_of_mem_drop hy))).1]; omega)
        have hne : hs.drop (k + 1) ≠ [] := by rw [Ne, List.drop_eq_nil_iff, HM.out]; omega
        have hai := hacc (hs.drop (k + 1)) (fun y hy => HI.out y (List.mem_of_mem_drop hy))
        have hx : foldA wd hs[k] (accA wd (hs.drop (k + 1))) = accA wd (hs.drop k) := by rw [hdr, acc_cons _ _ _ hne]
        have hno := fun (W : World) => r2foldA_calls W wd hIk hai
        have hfi := foldA_is wd hIk hai
        have hlr := rng?_row hB.box hai.1
        have hnext := fun (W : World) (hW : Chg [] wr W) => hB.set hW HI.out hx
        have hmay := fun (W : World) (hW : Chg [] wr W) => may_chg hW hmb (by omega) (by simp)
        have HNX := Lib.hid hnext
        have HMY := Lib.hid hmay
        have hs1 := hfi.1
        have hs2 := hfi.one
        have HG := Lib.hid hg
        have HNO := Lib.hid hno
        clear hnext hx hdr hB hacc hIk hg hne hai hno hmay hfi hrm'
        generalize accA wd (hs.drop (k + 1)) = A at *
        generalize hs[k] = x at *
        generalize foldA wd x A = y at *
        go_upto_region 11 with (fail)
        go_region_with (go_at_call 215; (with_reducible refine (HNO.out _).mono ?_); rintro e w3 ⟨rfl, hc3⟩; have hC3 : Chg [] wr w3 := ((Chg.refl [] wr).drew).nil_trans hc3; have hm3 := HMY.out _ hC3)
        all_goals
          go_wp2
          go_roundg k
          case measure => rw [HG.out]; omega
          case rel => exact ⟨k, by omega, rfl, by go_num, HNX.out _ hC3⟩
theorem r6bag_size (w : World) (wd : Int) (n : Nat) (v : Value) (h1 : 4611686018427387904 < n) (h2 : n < 18446744073709551616) : Calls Tryz.prog 170 #[.int .i64 wd, .int .u64 n, v] w (Res w [] (.tuple #[.agg zeroHash, .int .i64 30])) := by
  go_enter Tryz.func170, Tryz.ntmps170
  go_wp2
  refine bodyPost_ret (res_Hash2 rfl _ _ rfl (rng?_alloc_at _ _ _ _ _ rfl zeroHash_size)) rfl ⟨rfl, (Chg.refl _ _).alloc _⟩
theorem r6bag_count (w : World) (wd : Int) (n : Nat) (v : Value) (hs : List (Array Value)) (hv : HsIs w v hs) (hn : n ≤ 4611686018427387904) (hl : hs.length ≠ popc n) (hlen : hs.length ≤ 1099511627776) : Calls Tryz.prog 170 #[.int .i64 wd, .int .u64 n, v] w (Res w [] (.tuple #[.agg zeroHash, .int .i64 70])) := by
  obtain ⟨hI, a, cap, rfl, hr⟩ := hv
  have hpo := popc_le_self n
  have htl := tops_length n (by have : (2 : Nat) ^ 63 = 9223372036854775808 := by decide
                                omega)
  have htop := fun W => r3tops_calls n hn W
  have hnd : decide ((4611686018427387904 : Int) < (n : Int)) = false := decide_eq_false (by omega)
  have hne : ((hs.length : Int) != (popc n : Nat)) = true := by rw [bne_iff_ne]; omega
  have hm0 : ∀ w1, Chg [] (w.alloc (.cells zeroHash 36)) w1 → may w1 w.heap.size 0 32 = true := fun w1 hC => may_chg hC (may_alloc_at w w.heap.size 32 zeroHash 36 rfl zeroHash_size) (by omega) (by simp)
  have hc0 : ∀ w1, Chg [] (w.alloc (.cells zeroHash 36)) w1 → Chg [] w w1 := fun w1 hC => ((Chg.refl [] w).alloc _).nil_trans hC
  have HM0 := Lib.hid hm0
  have HC0 := Lib.hid hc0
  have HTL := Lib.hid htl
  clear hl hr hI htl hm0 hc0
  generalize popc n = q at *
  go_enter Tryz.func170, Tryz.ntmps170
  go_wp2_with (go_at_call 131; refine (htop _).mono ?_; rintro e w1 ⟨v1, rfl, hO, hC⟩; obtain ⟨a1, cap1, rfl⟩ := hO.form; rw [HTL.out]; have hm3 := HM0.out w1 hC)
  refine bodyPost_ret (res_Hash2 rfl _ _ rfl (rng?_setRng_same _ _ _ _ _ hm3 zeroHash_size)) rfl ⟨rfl, ?_⟩
  exact (HC0.out _ hC).setRng (.inr (Nat.le_refl _)) _ _
/-! What both answer. -/
def bagV (wd : Int) (n : Nat) (hs : List (Array Value)) : Array Value := if 4611686018427387904 < n then zeroHash else if hs.length = popc n then bagA wd n hs else zeroHash
def bagErr (n : Nat) (hs : List (Array Value)) : Int := if 4611686018427387904 < n then 30 else if hs.length = popc n then 0 else 70
theorem bagV_is (wd : Int) (n : Nat) (hs : List (Array Value)) (hI : ∀ x ∈ hs, IsHash x) : IsHash (bagV wd n hs) := by
  unfold bagV
  split
  · exact zeroHash_is
  · split
    · exact rootA_is wd n (accA_is wd hs hI)
    · exact zeroHash_is
theorem bagErr_one (n : Nat) (hs : List (Array Value)) : bagErr n hs = 0 ∨ bagErr n hs = 30 ∨ bagErr n hs = 70 := by
  unfold bagErr
  split
  · exact .inr (.inl rfl)
  · split
    · exact .inl rfl
    · exact .inr (.inr rfl)
theorem r6bagR_calls (w : World) (wd : Int) (n : Nat) (v : Value) (hs : List (Array Value)) (hv : HsIs w v hs) (hn : n < 18446744073709551616) (hlen : hs.length ≤ 1000000) :
    Calls Tryz.prog 170 #[.int .i64 wd, .int .u64 n, v] w (Res w [] (.tuple #[.agg (bagV wd n hs), .int .i64 (bagErr n hs)])) := by
  unfold bagV bagErr
  by_cases h1 : 4611686018427387904 < n
  · rw [if_pos h1, if_pos h1]
    exact r6bag_size w wd n v h1 hn
  · rw [if_neg h1, if_neg h1]
    by_cases h2 : hs.length = popc n
    · rw [if_pos h2, if_pos h2]
      exact r6bag_calls w wd n v hs hv (by omega) h2
    · rw [if_neg h2, if_neg h2]
      exact r6bag_count w wd n v hs hv (by omega) h2 (by omega)
theorem tBagR_calls (w : World) (wd : Int) (n : Nat) (v : Value) (hs : List (Array Value)) (hv : HsIs w v hs) (hn : n < 18446744073709551616) (hlen : hs.length ≤ 1000000) (hk : HIs w) :
    Calls Tryz.prog 120 #[.int .i64 wd, .int .u64 n, v] w (Res w [] (.tuple #[.agg (bagV wd n hs), .int .i64 (bagErr n hs)])) := by
  unfold bagV bagErr
  by_cases h1 : 4611686018427387904 < n
  · rw [if_pos h1, if_pos h1]
    exact bag_size w wd n v h1 hn
  · rw [if_neg h1, if_neg h1]
    by_cases h2 : hs.length = popc n
    · rw [if_pos h2, if_pos h2]
      exact bag_calls w wd n v hs hv (by omega) h2 hk
    · rw [if_neg h2, if_neg h2]
      exact bag_count w wd n v hs hv (by omega) h2 (by omega)
end Go.Proofs.YtpklkefnmoaaaaaGreatDoor

/- Texts put into one by pack.py: TrD. -/
import Derived.Test.YtpklkefnmoaaaaaGreatDoorPkF
/- A tree: Peaks, Bag, Root, Old, Node. -/
namespace Go.Proofs.YtpklkefnmoaaaaaGreatDoor
open Go.RowKit
set_option linter.unusedVariables false
set_option linter.unusedSimpArgs false

/-- Peaks folded from the right. -/
def accA (wd : Int) : List (Array Value) → Array Value
  | [] => zeroHash
  | [x] => x
  | x :: y :: l => foldA wd x (accA wd (y :: l))
theorem accA_is (wd : Int) : ∀ (l : List (Array Value)), (∀ x ∈ l, IsHash x) → IsHash (accA wd l)
  | [], _ => zeroHash_is
  | [x], h => h x (by simp)
  | x :: y :: l, h => foldA_is wd (h x (by simp)) (accA_is wd (y :: l) (fun z hz => h z (by simp at hz ⊢; exact .inr hz)))
theorem acc_cons (wd : Int) (x : Array Value) (l : List (Array Value)) (h : l ≠ []) : accA wd (x :: l) = foldA wd x (accA wd l) := by
  cases l with
  | nil => exact absurd rfl h
  | cons y l => rfl
def bagA (wd : Int) (n : Nat) (l : List (Array Value)) : Array Value := rootA wd n (accA wd l)
structure BagI (w wr : World) (wd : Int) (hs : List (Array Value)) (c : Nat) : Prop where
  box : wr.heap[w.heap.size + 1]? = some (.cells (accA wd (hs.drop c)) 36 (0, 0))
  res : may wr w.heap.size 0 32 = true
  chg : Chg [] w wr
theorem bag_box {w : World} {L : Nat} {x y : Array Value} (h : w.heap[L]? = some (.cells x 36 (0, 0))) (hx : x.size = 32) (hy : y.size = 32) : (setRng w L 0 y).heap[L]? = some (.cells y 36 (0, 0)) := by
  rw [setRng_heap h 0 y (by omega)]
  congr 2
  apply Array.toList_inj.1
  have : List.drop (0 + y.size) x.toList = [] := by rw [List.drop_eq_nil_iff]; simp; omega
  simp [this]
  omega
theorem BagI.set {w wr W : World} {wd : Int} {hs : List (Array Value)} {c c' : Nat} {x : Array Value} (h : BagI w wr wd hs c) (hW : Chg [] wr W) (hi : ∀ y ∈ hs, IsHash y) (hx : x = accA wd (hs.drop c')) : BagI w (setRng W (w.heap.size + 1) 0 x) wd hs c' := by
  have h1 : IsHash (accA wd (hs.drop c)) := accA_is wd _ (fun y hy => hi y (List.mem_of_mem_drop hy))
  have h2 : IsHash (accA wd (hs.drop c')) := accA_is wd _ (fun y hy => hi y (List.mem_of_mem_drop hy))
  subst hx
  exact ⟨bag_box (hW.at h.box (by simp)) h1.1 h2.1, may_setRng _ _ _ _ _ _ _ (may_chg hW h.res (by omega) (by simp)), (h.chg.nil_trans hW).setRng (.inr (by omega)) _ _⟩
set_option maxRecDepth 100000 in
set_option maxHeartbeats 8000000 in
theorem bag_calls (w : World) (wd : Int) (n : Nat) (v : Value) (hs : List (Array Value)) (hv : HsIs w v hs) (hn : n ≤ 4611686018427387904) (hl : hs.length = popc n) (hk : HIs w) :
    Calls Tryz.prog 120 #[.int .i64 wd, .int .u64 n, v] w (Res w [] (.tuple #[.agg (bagA wd n hs), .int .i64 0])) := by
  obtain ⟨hI, a, cap, rfl, hr⟩ := hv
  have hpo := popc_le n 63 (by have : (2 : Nat) ^ 63 = 9223372036854775808 := by decide
                               omega)
  have hones := fun W => ones_calls n (by omega) W
  rw [← hl] at hones hpo
  have hacc := accA_is wd
  have hnd : decide ((4611686018427387904 : Int) < (n : Int)) = false := decide_eq_false (by omega)
  clear hl
  go_enter Tryz.func120, Tryz.ntmps120
  go_wp2_with (go_at_call 181; refine (hones _).mono ?_; rintro e w1 ⟨rfl, hw1⟩; subst hw1)
  have hB0 : BagI w ((w.alloc (.cells zeroHash 36)).alloc (.cells zeroHash 36)) wd hs hs.length := by
    refine ⟨?_, ?_, ((Chg.refl _ _).alloc _).alloc _⟩
    · have := blk_new (w.alloc (.cells zeroHash 36)) (.cells zeroHash 36)
      rw [World.size_alloc] at this
      rw [List.drop_length]
      exact this
    · have := may_alloc_at w w.heap.size 32 zeroHash 36 rfl zeroHash_size
      exact may_chg ((Chg.refl [] _).alloc _) this (by omega) (by simp)
  generalize (w.alloc (.cells zeroHash 36)).alloc (.cells zeroHash 36) = w2 at *
  obtain ⟨w0, rfl⟩ : ∃ w0 : World, w0 = w := ⟨_, rfl⟩
  go_loopg [9] hs.length (fun g ii wx => ∃ c : Nat, c ≤ hs.length ∧ g = c ∧ ii = .int .i64 ((c : Int) - 1) ∧ BagI w0 wx wd hs c)
  case atStart => exact ⟨hs.length, Nat.le_refl _, rfl, rfl, hB0⟩
  case round =>
    clear hB0
    obtain ⟨c, hc, hg, rfl, hB⟩ := hrel
    cases c with
    | zero =>
      have hai := hacc hs hI
      have hrt := fun W (hW : Chg [] w0 W) => rootA_calls W wd n (by omega) hai (hk.chg0 hW)
      have hri := rootA_is wd n hai
      have hbx := hB.box
      rw [List.drop_zero] at hbx
      have hlr := rng?_row hbx hai.1
      have hlc := blk_lt hbx
      have hrs := hB.res
      have hch := hB.chg
      have hsl := hri.1
      have hro := hri.one
      have HR : Shut (bagA wd n hs = rootA wd n (accA wd hs)) := ⟨rfl⟩
      clear hB hai hbx hri hr hI hk hg hacc hones
      generalize accA wd hs = A at *
      generalize hR : rootA wd n A = R at *
      have HR2 : Shut (rootA wd n A = R) := ⟨hR⟩
      clear hR
      go_wp2_with (go_at_call 80; refine (hrt _ hch).mono ?_; rintro e w3 ⟨rfl, hc3⟩; have hm3 := may_chg hc3 hrs (by omega) (by simp))
      refine bodyPost_ret (res_Hash2 rfl _ _ rfl (rng?_setRng_same _ _ _ _ _ hm3 hsl)) rfl ⟨by rw [HR.out]; rfl, ?_⟩
      exact (hch.nil_trans hc3).setRng (.inr (Nat.le_refl _)) _ _
    | succ k =>
      have hk1 : k < hs.length := hc
      rw [show (((k + 1 : Nat) : Int) - 1) = (k : Int) from by omega]
      rcases hr with hr | ⟨pb, po, rfl, hpb, hr⟩
      · subst hr; simp at hk1
      have hrow := rng?_chg hB.chg (hr k hk1) (by omega) (by simp)
      have hlk := World.block_lt_of_cell? _ _ ((rng?_cell hrow).2 0 (by rw [(rng?_cell hrow).1]; omega))
      have hIk := hI hs[k] (List.getElem_mem hk1)
      have hdr := List.drop_eq_getElem_cons hk1
      have hmb := may_row (o := 0) (n := 32) hB.box (by rw [(hacc _ (fun y hy => hI y (List.mem_of_mem_drop hy))).1]; omega)
      have hlb := blk_lt hB.box
      by_cases hlast : k + 1 = hs.length
      · have hx : hs[k] = accA wd (hs.drop k) := by
          rw [hdr, hlast, List.drop_length]
          rfl
        have hnext := hB.set (Chg.refl _ _) hI hx
        have et : ((k : Int) == (hs.length : Int) - 1) = true := by rw [beq_iff_eq]; omega
        have HNX := Lib.hid hnext
        have hs1 := hIk.1
        have hs2 := hIk.one
        have HG := Lib.hid hg
        clear hnext hx hdr hB hI hacc hr hIk hk hones hg hlast
        generalize hs[k] = x at *
        go_wp2
        go_roundg k
        case measure => rw [HG.out]; omega
        case rel => exact ⟨k, by omega, rfl, by go_num, HNX.out⟩
      · have hne : hs.drop (k + 1) ≠ [] := by rw [Ne, List.drop_eq_nil_iff]; omega
        have hai := hacc (hs.drop (k + 1)) (fun y hy => hI y (List.mem_of_mem_drop hy))
        have hx : foldA wd hs[k] (accA wd (hs.drop (k + 1))) = accA wd (hs.drop k) := by rw [hdr, acc_cons _ _ _ hne]
        have hno := fun (W : World) (hW : Chg [] wr W) => foldA_calls W wd hIk hai (hk.chg0 (hB.chg.nil_trans hW))
        have hfi := foldA_is wd hIk hai
        have hlr := rng?_row hB.box hai.1
        have hnext := fun (W : World) (hW : Chg [] wr W) => hB.set hW hI hx
        have hmay := fun (W : World) (hW : Chg [] wr W) => may_chg hW hmb (by omega) (by simp)
        have et : ((k : Int) == (hs.length : Int) - 1) = false := by rw [beq_eq_false_iff_ne]; omega
        have HNX := Lib.hid hnext
        have HMY := Lib.hid hmay
        have hs1 := hfi.1
        have hs2 := hfi.one
        have HG := Lib.hid hg
        have HNO := Lib.hid hno
        clear hnext hx hdr hB hI hacc hr hIk hk hones hg hlast hne hai hno hmay hfi
        generalize accA wd (hs.drop (k + 1)) = A at *
        generalize hs[k] = x at *
        generalize foldA wd x A = y at *
        go_upto_region 11 with (fail)
        go_region_with (go_at_call 81; (with_reducible refine (HNO.out _ (Chg.refl _ _).drew).mono ?_); rintro e w3 ⟨rfl, hc3⟩; have hC3 : Chg [] wr w3 := ((Chg.refl [] wr).drew).nil_trans hc3; have hm3 := HMY.out _ hC3)
        all_goals
          go_wp2
          go_roundg k
          case measure => rw [HG.out]; omega
          case rel => exact ⟨k, by omega, rfl, by go_num, HNX.out _ hC3⟩
theorem bag_size (w : World) (wd : Int) (n : Nat) (v : Value) (h1 : 4611686018427387904 < n) (h2 : n < 18446744073709551616) : Calls Tryz.prog 120 #[.int .i64 wd, .int .u64 n, v] w (Res w [] (.tuple #[.agg zeroHash, .int .i64 30])) := by
  go_enter Tryz.func120, Tryz.ntmps120
  go_wp2
  refine bodyPost_ret (res_Hash2 rfl _ _ rfl (rng?_alloc_at _ _ _ _ _ rfl zeroHash_size)) rfl ⟨rfl, (Chg.refl _ _).alloc _⟩
theorem bag_count (w : World) (wd : Int) (n : Nat) (v : Value) (hs : List (Array Value)) (hv : HsIs w v hs) (hn : n ≤ 4611686018427387904) (hl : hs.length ≠ popc n) (hlen : hs.length ≤ 1099511627776) : Calls Tryz.prog 120 #[.int .i64 wd, .int .u64 n, v] w (Res w [] (.tuple #[.agg zeroHash, .int .i64 70])) := by
  obtain ⟨hI, a, cap, rfl, hr⟩ := hv
  have hones := fun W => ones_calls n (by omega) W
  have hpo := popc_le_self n
  have hnd : decide ((4611686018427387904 : Int) < (n : Int)) = false := decide_eq_false (by omega)
  have hne : ((hs.length : Int) != (popc n : Nat)) = true := by rw [bne_iff_ne]; omega
  clear hl hr hI
  generalize popc n = q at *
  go_enter Tryz.func120, Tryz.ntmps120
  go_wp2_with (go_at_call 181; refine (hones _).mono ?_; rintro e w1 ⟨rfl, hw1⟩; subst hw1)
  refine bodyPost_ret (res_Hash2 rfl _ _ rfl (rng?_alloc_at _ _ _ _ _ rfl zeroHash_size)) rfl ⟨rfl, (Chg.refl _ _).alloc _⟩
/-- The peaks' list and the error with it, as Peaks gives them. -/
def PeaksOf (s : SS) (ps : List Nat) : List (Array Value) := if ∀ p ∈ ps, s.getE p = 0 then ps.map s.getH else []
def PkP (w : World) (l : List (Array Value)) (e : Ending) (w' : World) : Prop := ∃ v, e = .returned v ∧ HOwn w' w.heap.size v l ∧ Chg [] w w'
set_option maxRecDepth 100000 in
theorem tPeaks_calls (w : World) (b : Nat) (t : TS) (ht : TrIs w b t) (hn : t.size ≤ 4611686018427387904) : Calls Tryz.prog 48 #[.pointer (some ⟨b, 0, none⟩)] w (PkP w (PeaksOf t.s (peaksN t.size))) := by
  have hp := tpeaks_calls w b t t.size ht hn
  have c2 := blk_cell ht.mem 2 rfl
  have hb := blk_lt ht.mem
  have hfin : ∀ (e : Ending) (w' : World), TPeaksP w t.s (peaksN t.size) e w' → ∃ v x, e = .returned (.tuple #[v, x]) ∧ HOwn w' w.heap.size v (PeaksOf t.s (peaksN t.size)) ∧ Chg [] w w' := by
    intro e w' h
    rcases h with ⟨v, h1, rfl, h2, h3⟩ | ⟨i, hi, h1, h2, rfl, h3⟩
    · exact ⟨v, _, rfl, by unfold PeaksOf; rw [if_pos h1]; exact h2, h3⟩
    · refine ⟨_, _, rfl, ?_, h3⟩
      unfold PeaksOf
      rw [if_neg (fun h => h2 (h _ (List.getElem_mem hi)))]
      exact HOwn.nil _ _
  have HF := Lib.hid hfin
  clear hfin ht
  generalize PeaksOf t.s (peaksN t.size) = l at *
  go_enter Tryz.func48, Tryz.ntmps48
  go_wp2_with (go_at_call 128; refine hp.mono ?_; intro e w1 hp1; obtain ⟨v, x, he, h1, h2⟩ := HF.out e w1 hp1; subst he)
  go_ret
  exact ⟨v, rfl, h1, h2⟩
set_option maxRecDepth 100000 in
theorem tNode_calls (w : World) (b p : Nat) (t : TS) (ht : TrIs w b t) (hp : p < 18446744073709551616) : Calls Tryz.prog 50 #[.pointer (some ⟨b, 0, none⟩), .int .u64 p] w (Res w [] (.tuple #[.agg (t.s.getH p), .int .i64 (t.s.getE p)])) := by
  have c0 := blk_cell ht.mem 0 rfl
  have hb := blk_lt ht.mem
  have hgi := IsHash.getH ht.st p
  have hget := get_calls t.sb p t.s (w.alloc (.cells zeroHash 36)) (ht.st.chg0 ((Chg.refl _ _).alloc _)) hp
  have hs1 := hgi.1
  have hs2 := hgi.one
  have hm0 := may_alloc_at w w.heap.size 32 zeroHash 36 rfl zeroHash_size
  clear ht
  generalize t.s.getH p = H at *
  generalize t.s.getE p = E at *
  clear hgi
  go_enter Tryz.func50, Tryz.ntmps50
  go_wp2_with (go_at_call 104; refine hget.mono ?_; rintro e w3 ⟨rfl, hc3⟩; have hm3 := may_chg hc3 hm0 (by omega) (by simp))
  refine bodyPost_ret (res_Hash2 rfl _ _ rfl (rng?_setRng_same _ _ _ _ _ hm3 hs1)) rfl ⟨rfl, ?_⟩
  exact (((Chg.refl [] w).alloc _).nil_trans hc3).setRng (.inr (Nat.le_refl _)) _ _
end Go.Proofs.YtpklkefnmoaaaaaGreatDoor
